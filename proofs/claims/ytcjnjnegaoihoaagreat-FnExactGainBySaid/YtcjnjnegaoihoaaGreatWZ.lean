/- The exact law on GainBy: for every input the call returns true, and each argument reads as before. No condition. -/
import Derived.Test.YtcjnjnegaoihoaaGreatW01
import Derived.Test.YtcjnjnegaoihoaaGreatW29
import Derived.Test.YtcjnjnegaoihoaaGreatW31
namespace Go.Proofs.YtcjnjnegaoihoaaGreat
set_option linter.unusedSimpArgs false
open Go.RowKit

set_option maxHeartbeats 1000000 in
theorem law_FnExactGainBy (w : World) (a0 : Int) (wf0 : (Lit.int .i64 a0).wf = true) (u1 : Int) (A1 : Option Addr) (n1 c1 : Nat) (z1 : List Vt) (wf1 : (Lit.int .i64 u1).wf = true) (h1 : VotesAt w A1 n1 z1) (f1 : ∀ x ∈ z1, x.r.length ≤ 9223372036854775807 ∧ (∀ u ∈ x.r, (Lit.int .i64 u).wf = true) ∧ (Lit.int .i64 x.c).wf = true) (l1 : n1 ≤ c1) (m1 : c1 ≤ maxLen) (a2 : Int) (wf2 : (Lit.int .i64 a2).wf = true) :
    Calls Tryz.prog 3 #[.int .i64 a0, .agg #[.int .i64 u1, .slice A1 n1 c1], .int .i64 a2] w fun e w' => e = .returned (.bool true) ∧ Below w.heap.size w w' := by
  unfold maxLen at m1
  have HF1 := Lib.hid f1; clear f1
  go_enter Tryz.func3, Tryz.ntmps3
  have hT : Below w.heap.size w (w.alloc (Obj.cells #[Value.int IntKind.i64 u1, Value.slice A1 n1 c1] 24)) := (Below.refl _ _).alloc (Nat.le_refl _) _
  have hN := World.size_alloc w (Obj.cells #[Value.int IntKind.i64 u1, Value.slice A1 n1 c1] 24)
  have k_a := new_pair w (Value.int IntKind.i64 u1) (Value.slice A1 n1 c1) 24 rfl
  go_wp2_with fail
  generalize (w.alloc (Obj.cells #[Value.int IntKind.i64 u1, Value.slice A1 n1 c1] 24)) = w0 at *
  obtain ⟨k_a0, k_a1⟩ := k_a
  have s_w0 : w.heap.size < w0.heap.size := by omega
  clear hN
  go_wp2_with fail
  (with_reducible refine (szProfile_any _ _ _ _ _ _ _ (h1.below hT) (by omega) (fun xs hx => (HF1.out xs hx).1) (by omega) (by omega)).mono ?_)
  rintro e w1 ⟨r1, rfl, hr1, hq1, b_w1⟩
  replace k_a0 := cell_carry b_w1 k_a0
  replace k_a1 := cell_carry b_w1 k_a1
  replace hT := hT.trans (b_w1.mono hT.size)
  have s_w1 := b_w1.size
  clear b_w1
  by_cases hneg1 : r1 < 0
  · go_wp2_with fail
    go_ret
    exact ⟨rfl, hT⟩
  have hnn1 : 0 ≤ r1 := by omega
  obtain ⟨hs1, sm1, hx1⟩ := hr1 hnn1
  have HX1 := Lib.hid hx1; clear hx1
  clear hr1 hneg1
  go_wp2_with fail
  (with_reducible refine (toProfile_any _ _ _ _ _ _ (h1.below hT) sm1 HX1.out).mono ?_)
  rintro e w2 ⟨A_t1, c_t1, rfl, o_t1, b_t1⟩
  replace k_a0 := cell_carry b_t1 k_a0
  replace k_a1 := cell_carry b_t1 k_a1
  replace hT := hT.trans (b_t1.mono hT.size)
  have s_w2 := b_t1.size
  clear b_t1
  go_wp2_with fail
  (with_reducible refine (specGainByC _ _ _ _ _ _ _ _ o_t1.at_ sm1 HX1.out).mono ?_)
  rintro e w3 ⟨A_w0, c_w0, rfl, o_w0, q_w0, b_w3⟩
  replace o_t1 := o_t1.belowW b_w3
  replace k_a0 := cell_carry b_w3 k_a0
  replace k_a1 := cell_carry b_w3 k_a1
  replace hT := hT.trans (b_w3.mono hT.size)
  have s_w3 := b_w3.size
  clear b_w3
  go_wp2_with fail
  (with_reducible refine (toProfile_any _ _ _ _ _ _ (h1.below hT) sm1 HX1.out).mono ?_)
  rintro e w4 ⟨A_t2, c_t2, rfl, o_t2, b_t2⟩
  replace o_t1 := o_t1.belowW b_t2
  replace o_w0 := o_w0.belowW b_t2
  replace k_a0 := cell_carry b_t2 k_a0
  replace k_a1 := cell_carry b_t2 k_a1
  replace hT := hT.trans (b_t2.mono hT.size)
  have s_w4 := b_t2.size
  clear b_t2
  have k_t2 := new_pair w4 (Value.int IntKind.i64 u1) (Value.slice A_t2 n1 c_t2) 31 rfl
  have b_w5 : Below w4.heap.size w4 (w4.alloc (Obj.cells #[Value.int IntKind.i64 u1, Value.slice A_t2 n1 c_t2] 31)) := (Below.refl _ _).alloc (Nat.le_refl _) _
  have z_w5 := World.size_alloc w4 (Obj.cells #[Value.int IntKind.i64 u1, Value.slice A_t2 n1 c_t2] 31)
  replace k_a0 := old_cell k_a0 (Obj.cells #[Value.int IntKind.i64 u1, Value.slice A_t2 n1 c_t2] 31)
  replace k_a1 := old_cell k_a1 (Obj.cells #[Value.int IntKind.i64 u1, Value.slice A_t2 n1 c_t2] 31)
  go_wp2_with fail
  generalize w4.alloc (Obj.cells #[Value.int IntKind.i64 u1, Value.slice A_t2 n1 c_t2] 31) = w5 at *
  obtain ⟨k_t20, k_t21⟩ := k_t2
  have y_w5 : w4.heap.size < w5.heap.size := by omega
  clear z_w5
  replace o_t1 := o_t1.belowW b_w5
  replace o_w0 := o_w0.belowW b_w5
  replace o_t2 := o_t2.belowW b_w5
  replace hT := hT.trans (b_w5.mono hT.size)
  have s_w5 := b_w5.size
  clear b_w5
  go_wp2_with fail
  (with_reducible refine (implGainByC _ _ _ _ _ _ _ _ o_t2.at_ sm1 HX1.out).mono ?_)
  rintro e w6 ⟨A_g0, c_g0, rfl, o_g0, q_g0, b_w6⟩
  replace o_t1 := o_t1.belowW b_w6
  replace o_w0 := o_w0.belowW b_w6
  replace o_t2 := o_t2.belowW b_w6
  replace k_a0 := cell_carry b_w6 k_a0
  replace k_a1 := cell_carry b_w6 k_a1
  replace k_t20 := cell_carry b_w6 k_t20
  replace k_t21 := cell_carry b_w6 k_t21
  replace hT := hT.trans (b_w6.mono hT.size)
  have s_w6 := b_w6.size
  clear b_w6
  go_wp2_with fail
  (with_reducible refine (eqIntS_eq _ _ _ _ _ _ _ _ o_g0.at_ o_w0.at_ (Nat.le_trans q_g0 (by omega))).mono ?_)
  rintro e w7 ⟨rfl, md, hd_w7⟩
  have b_w7 : Below w6.heap.size w6 w7 := below_of_drewN hd_w7
  clear hd_w7
  replace o_t1 := o_t1.belowW b_w7
  replace o_w0 := o_w0.belowW b_w7
  replace o_t2 := o_t2.belowW b_w7
  replace o_g0 := o_g0.belowW b_w7
  replace k_a0 := cell_carry b_w7 k_a0
  replace k_a1 := cell_carry b_w7 k_a1
  replace k_t20 := cell_carry b_w7 k_t20
  replace k_t21 := cell_carry b_w7 k_t21
  replace hT := hT.trans (b_w7.mono hT.size)
  have s_w7 := b_w7.size
  clear b_w7
  go_wp2_with fail
  go_region_held3 (fun w' => w'.cell? ⟨w4.heap.size, 0, none⟩ = some (Value.int IntKind.i64 u1) ∧ w'.cell? ⟨w4.heap.size, 1, none⟩ = some (Value.slice A_t2 n1 c_t2) ∧ w'.cell? ⟨w.heap.size, 0, none⟩ = some (Value.int IntKind.i64 u1) ∧ w'.cell? ⟨w.heap.size, 1, none⟩ = some (Value.slice A1 n1 c1)) ((refine ⟨?_, ?_, ?_, ?_⟩ <;> (first | assumption | go_keep))) (first | (go_at_call 7; (with_reducible refine (toProfile_any _ _ _ _ _ _ (h1.below hT.drew) sm1 HX1.out).mono ?_); rintro e w8 ⟨A_t3, c_t3, rfl, o_t3, b_t3⟩; replace b_t3 : Below w7.heap.size w7 w8 := ((Below.refl _ w7).drew).trans b_t3; replace o_t1 := o_t1.belowW b_t3; replace o_w0 := o_w0.belowW b_t3; replace o_t2 := o_t2.belowW b_t3; replace o_g0 := o_g0.belowW b_t3; replace k_a0 := cell_carry b_t3 k_a0; replace k_a1 := cell_carry b_t3 k_a1; replace k_t20 := cell_carry b_t3 k_t20; replace k_t21 := cell_carry b_t3 k_t21; replace hT := hT.trans (b_t3.mono hT.size); have s_w8 := b_t3.size; clear b_t3) | (go_at_call 10; (with_reducible refine (eqProfile_eq _ _ _ _ _ _ _ _ _ o_t2.at_ o_t3.at_ sm1 HX1.out).mono ?_); rintro e w9 ⟨rfl, b_w9⟩; replace o_t1 := o_t1.belowW b_w9; replace o_w0 := o_w0.belowW b_w9; replace o_t2 := o_t2.belowW b_w9; replace o_g0 := o_g0.belowW b_w9; replace o_t3 := o_t3.belowW b_w9; replace k_a0 := cell_carry b_w9 k_a0; replace k_a1 := cell_carry b_w9 k_a1; replace k_t20 := cell_carry b_w9 k_t20; replace k_t21 := cell_carry b_w9 k_t21; replace hT := hT.trans (b_w9.mono hT.size); have s_w9 := b_w9.size; clear b_w9))
  go_wp2_with fail
  (with_reducible refine (markProfile_any _ _ _ _ _ _ _ _ _ o_t2 sm1 HX1.out (by omega) (by omega) (by omega) (by omega)).mono ?_)
  rintro e w10 ⟨rfl, mo_t2, ho_w10, ge_w10, le_w10⟩
  replace o_t1 := o_t1.only ho_w10 (by omega)
  replace o_w0 := o_w0.only ho_w10 (by omega)
  replace o_g0 := o_g0.only ho_w10 (by omega)
  replace k_a0 := ho_w10.cell k_a0 (by (try simp) <;> (try omega))
  replace k_a1 := ho_w10.cell k_a1 (by (try simp) <;> (try omega))
  replace k_t20 := ho_w10.cell k_t20 (by (try simp) <;> (try omega))
  replace k_t21 := ho_w10.cell k_t21 (by (try simp) <;> (try omega))
  replace hT := hT.trans (ho_w10.toBelow (by omega) hT.size)
  have s_w10 := ho_w10.size
  clear ho_w10
  clear o_t2
  go_wp2_with fail
  (with_reducible refine (eqIntS_eq _ _ _ _ _ _ _ _ o_g0.at_ o_w0.at_ (Nat.le_trans q_g0 (by omega))).mono ?_)
  rintro e w11 ⟨rfl, md, hd_w11⟩
  have b_w11 : Below w10.heap.size w10 w11 := below_of_drewN hd_w11
  clear hd_w11
  replace o_t1 := o_t1.belowW b_w11
  replace o_w0 := o_w0.belowW b_w11
  replace mo_t2 := mo_t2.belowW b_w11
  replace o_g0 := o_g0.belowW b_w11
  replace k_a0 := cell_carry b_w11 k_a0
  replace k_a1 := cell_carry b_w11 k_a1
  replace k_t20 := cell_carry b_w11 k_t20
  replace k_t21 := cell_carry b_w11 k_t21
  replace hT := hT.trans (b_w11.mono hT.size)
  have s_w11 := b_w11.size
  clear b_w11
  go_wp2_with fail
  (with_reducible refine (markIntS_any _ _ _ _ _ _ _ _ o_g0 (Nat.le_trans q_g0 (by omega)) (by omega) (by omega)).mono ?_)
  rintro e w12 ⟨rfl, mo_g0, ho_w12⟩
  replace o_t1 := o_t1.only ho_w12 (by omega)
  replace o_w0 := o_w0.only ho_w12 (by omega)
  replace mo_t2 := mo_t2.only ho_w12 (by omega)
  replace k_a0 := ho_w12.cell k_a0 (by (try simp) <;> (try omega))
  replace k_a1 := ho_w12.cell k_a1 (by (try simp) <;> (try omega))
  replace k_t20 := ho_w12.cell k_t20 (by (try simp) <;> (try omega))
  replace k_t21 := ho_w12.cell k_t21 (by (try simp) <;> (try omega))
  replace hT := hT.trans (ho_w12.toBelow (by omega) hT.size)
  have s_w12 := ho_w12.size
  clear ho_w12
  clear o_g0
  go_wp2_with fail
  (with_reducible refine (heldIntS_any _ _ _ _ _ mo_g0.at_ (Nat.le_trans q_g0 (by omega)) (by omega) (by omega)).mono ?_)
  rintro e wh ⟨rfl, rfl⟩
  go_wp2_with fail
  (with_reducible refine (toProfile_any _ _ _ _ _ _ (h1.below hT) sm1 HX1.out).mono ?_)
  rintro e w13 ⟨A_t4, c_t4, rfl, o_t4, b_t4⟩
  replace o_t1 := o_t1.belowW b_t4
  replace o_w0 := o_w0.belowW b_t4
  replace mo_t2 := mo_t2.belowW b_t4
  replace mo_g0 := mo_g0.belowW b_t4
  replace k_a0 := cell_carry b_t4 k_a0
  replace k_a1 := cell_carry b_t4 k_a1
  replace k_t20 := cell_carry b_t4 k_t20
  replace k_t21 := cell_carry b_t4 k_t21
  replace hT := hT.trans (b_t4.mono hT.size)
  have s_w13 := b_t4.size
  clear b_t4
  go_wp2_with fail
  (with_reducible refine (implGainByC _ _ _ _ _ _ _ _ o_t4.at_ sm1 HX1.out).mono ?_)
  rintro e w14 ⟨A_h0, c_h0, rfl, o_h0, q_h0, b_w14⟩
  replace o_t1 := o_t1.belowW b_w14
  replace o_w0 := o_w0.belowW b_w14
  replace mo_t2 := mo_t2.belowW b_w14
  replace mo_g0 := mo_g0.belowW b_w14
  replace o_t4 := o_t4.belowW b_w14
  replace k_a0 := cell_carry b_w14 k_a0
  replace k_a1 := cell_carry b_w14 k_a1
  replace k_t20 := cell_carry b_w14 k_t20
  replace k_t21 := cell_carry b_w14 k_t21
  replace hT := hT.trans (b_w14.mono hT.size)
  have s_w14 := b_w14.size
  clear b_w14
  go_wp2_with fail
  (with_reducible refine (eqIntS_eq _ _ _ _ _ _ _ _ o_h0.at_ o_w0.at_ (Nat.le_trans q_h0 (by omega))).mono ?_)
  rintro e w15 ⟨rfl, md, hd_w15⟩
  have b_w15 : Below w14.heap.size w14 w15 := below_of_drewN hd_w15
  clear hd_w15
  replace o_t1 := o_t1.belowW b_w15
  replace o_w0 := o_w0.belowW b_w15
  replace mo_t2 := mo_t2.belowW b_w15
  replace mo_g0 := mo_g0.belowW b_w15
  replace o_t4 := o_t4.belowW b_w15
  replace o_h0 := o_h0.belowW b_w15
  replace k_a0 := cell_carry b_w15 k_a0
  replace k_a1 := cell_carry b_w15 k_a1
  replace k_t20 := cell_carry b_w15 k_t20
  replace k_t21 := cell_carry b_w15 k_t21
  replace hT := hT.trans (b_w15.mono hT.size)
  have s_w15 := b_w15.size
  clear b_w15
  go_wp2_with fail
  (with_reducible refine (heldIntS_any _ _ _ _ _ mo_g0.at_ (Nat.le_trans q_g0 (by omega)) (by omega) (by omega)).mono ?_)
  rintro e wh ⟨rfl, rfl⟩
  go_wp2_with fail
  go_ret
  exact ⟨rfl, hT⟩
end Go.Proofs.YtcjnjnegaoihoaaGreat
namespace Go.Proofs.YtcjnjnegaoihoaaGreat.fnExactGainBy
set_option linter.unusedSimpArgs false
open Go.ChangeShapes Go.WideShapes Go.ChangeAt Go.RowKit
open Go.ChangeMaps (open_string shut_string)
set_option linter.unusedVariables false

set_option maxRecDepth 100000 in
theorem lifted (os : Os) (started : os.Started) (H : Type) (enc : TypeId × Value → H) :
    ReturnsInHanded {} Tryz.checked os 3 .any (Rows.fnExactGainBySpec.pre6 enc Tryz.prog Tryz.f3 Rows.fnExactGainByRow.domain false) (Rows.fnExactGainBySpec.post enc Tryz.prog Tryz.f3 false true false false) := by
  refine returnsInHanded_of_change (C := Tryz.checked) own started (by kernel_rfl) Tryz.func3
    (ChangeSpec.witness6 (enc := enc) (C := Tryz.checked) false ⟨#[], #[.int .i64 0, .agg #[.int .i64 0, .slice none 0 0], .int .i64 0], []⟩ 8 (by kernel_rfl) (by kernel_rfl) (by kernel_rfl) (by kernel_rfl)) ?_
  intro W base args ds gs before hval0 hW hcnd _
  have hval : ∀ (j : Nat) t v, Tryz.f3.params[j]? = some t → args[j]? = some v → Value.okWide Tryz.prog W .any base t v := hval0
  have hW' := hW
  obtain ⟨p, q, hA0, hV, rfl, hfz, hnd⟩ := hW
  have hA : DataW.TrodAll enc Tryz.prog W 0 (fun _ => true) true Tryz.f3.params.toList args.toList ds p := hA0
  rw [Tryz.params3] at hA hval
  obtain ⟨v0, vs0, d0, ds0, p0, q0, hargs, rfl, rfl, h0, r0⟩ := trodAll_cons hA
  obtain ⟨v1, vs1, d1, ds1, p1, q1, rfl, rfl, rfl, h1, r1⟩ := trodAll_cons r0
  obtain ⟨v2, vs2, d2, ds2, p2, q2, rfl, rfl, rfl, h2, r2⟩ := trodAll_cons r1
  obtain ⟨rfl, rfl, rfl⟩ := trodAll_nil r2
  obtain rfl : args = #[v0, v1, v2] := by cases args; simp_all
  obtain ⟨rfl, rfl⟩ := trodVars_none hV
  obtain ⟨a0, rfl, rfl, rfl, w0⟩ := open_int Tryz.underlying3 (hval 0 3 v0 rfl rfl) h0
  have k1 := h1
  have lt1 : ∀ x ∈ p1, x.block < W.heap.size := by obtain ⟨m, hm⟩ := k1; exact DataW.trod_lt m _ _ _ hm
  obtain ⟨u1, a1, n1, c1, z1, rfl, w1, hv1, f1, l1, m1⟩ := profile_open (hval 1 24 v1 rfl rfl) h1
  obtain ⟨a2, rfl, rfl, rfl, w2⟩ := open_int Tryz.underlying3 (hval 2 3 v2 rfl rfl) h2
  clear hA0 hval0
  refine (law_FnExactGainBy W a0 w0 u1 a1 n1 c1 z1 w1 hv1 f1 l1 m1 a2 w2).mono fun e W' ⟨he, bel⟩ => ?_
  subst he
  exact ⟨_, rfl, _, _, _, [], _, [], hW', trodAll_mk1 (shut_bool Tryz.underlying4 _), (trodAll_cons_mk (shut_int Tryz.underlying3 w0) (trodAll_cons_mk (Below.trod laidOut (by kernel_rfl) (of_decide_eq_true (by kernel_rfl)) k1 bel lt1) (trodAll_cons_mk (shut_int Tryz.underlying3 w2) trodAll_mk0))), rfl, bel.frame _, fun h => by cases h⟩

theorem over : Rows.fnExactGainByRow.holds Tryz.pinned (OpenSpec.ofChange Rows.fnExactGainBySpec) :=
  OpenClaim.holds_of_wide 3 Tryz.f3 rfl rfl rfl rfl rfl rfl rfl ⟨rfl, rfl, rfl, rfl, rfl⟩ rfl rfl rfl rfl rfl (by kernel_rfl) Tryz.func3 (by kernel_rfl)
    (of_decide_eq_true (by kernel_rfl)) (by unfold Func.isWrapper; first | (rw [if_pos (by decide +kernel)]; kernel_rfl) | (rw [if_neg (by decide +kernel)]; exact ⟨rfl, rfl⟩))
    (fun os started H enc _ => lifted os started H enc)

theorem proved : Rows.FnExactGainBySaid := over
end Go.Proofs.YtcjnjnegaoihoaaGreat.fnExactGainBy
