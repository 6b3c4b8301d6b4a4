/- The exact law on ParseMarket: for every input the call returns true, and each argument reads as before. No condition. -/
import Derived.Test.YtnoanomihifobaaDoorOpen
import Derived.LaidMore
import Derived.Lay
import Derived.SevenTiedAt
import Derived.Stop.Joined
import Derived.HandedShaped
import Derived.Shelf.Vars
import Derived.Test.YtnoanomihifobaaDoorCards
import Derived.Test.YtnoanomihifobaaDoorTie
import Derived.Test.YtnoanomihifobaaDoorParseC
import Derived.Test.YtnoanomihifobaaDoorLawMarket
namespace Go.Proofs.YtnoanomihifobaaDoor
open Go.RowKit

set_option linter.unusedVariables false in
set_option maxHeartbeats 1000000 in
theorem law_FnExactParseMarket (w : World) (m : Int) (hm : w.cell? ⟨0, 0, none⟩ = some (.int .i64 m)) (a0 : ByteArray) (wf0 : a0.size ≤ maxLen) :
    Calls Tryd.prog 3 #[.string a0] w fun e w' => e = .returned (.bool true) ∧ Below w.heap.size w w' := by
  by_cases big0 : 1048576 < a0.size
  · go_enter Tryd.func3, Tryd.ntmps3
    go_wp2_with fail
    go_ret
    exact ⟨rfl, Below.refl _ _⟩
  have sm0 : a0.size ≤ 1048576 := by omega
  clear big0
  have hm0 := cell_lt hm
  go_enter Tryd.func3, Tryd.ntmps3
  have hT : Below w.heap.size w w := Below.refl _ _
  go_wp2_with fail
  (with_reducible refine (specParseMarketC _ _ sm0).mono ?_)
  rintro e w1 ⟨A_w0a, c_w0a, A_w0b, c_w0b, rfl, o_w0, q_w0a, r_w0a, q_w0b, r_w0b, b_w1⟩
  replace hm := cell_carry b_w1 hm
  replace hT := hT.trans (b_w1.mono hT.size)
  have s_w1 := b_w1.size
  clear b_w1
  have R_w0a := Lib.hid r_w0a; clear r_w0a
  have R_w0b := Lib.hid r_w0b; clear r_w0b
  have k_w0 := new_pair w1 (Value.slice A_w0a (parMen a0).length c_w0a) (Value.slice A_w0b (parWom a0).length c_w0b) 24 rfl
  have b_w2 : Below w1.heap.size w1 (w1.alloc (Obj.cells #[Value.slice A_w0a (parMen a0).length c_w0a, Value.slice A_w0b (parWom a0).length c_w0b] 24)) := (Below.refl _ _).alloc (Nat.le_refl _) _
  have z_w2 := World.size_alloc w1 (Obj.cells #[Value.slice A_w0a (parMen a0).length c_w0a, Value.slice A_w0b (parWom a0).length c_w0b] 24)
  replace hm := old_cell hm (Obj.cells #[Value.slice A_w0a (parMen a0).length c_w0a, Value.slice A_w0b (parWom a0).length c_w0b] 24)
  go_wp2_with fail
  generalize w1.alloc (Obj.cells #[Value.slice A_w0a (parMen a0).length c_w0a, Value.slice A_w0b (parWom a0).length c_w0b] 24) = w2 at *
  obtain ⟨k_w00, k_w01⟩ := k_w0
  have y_w2 : w1.heap.size < w2.heap.size := by omega
  clear z_w2
  replace o_w0 := o_w0.belowW b_w2
  replace hT := hT.trans (b_w2.mono hT.size)
  have s_w2 := b_w2.size
  clear b_w2
  go_wp2_with fail
  (with_reducible refine (implParseMarketD _ _ sm0 m hm).mono ?_)
  rintro e w3 ⟨A_g0a, c_g0a, A_g0b, c_g0b, rfl, o_g0, q_g0a, r_g0a, q_g0b, r_g0b, b_w3⟩
  replace o_w0 := o_w0.belowW b_w3
  replace hm := cell_carry b_w3 hm
  replace k_w00 := cell_carry b_w3 k_w00
  replace k_w01 := cell_carry b_w3 k_w01
  replace hT := hT.trans (b_w3.mono hT.size)
  have s_w3 := b_w3.size
  clear b_w3
  have R_g0a := Lib.hid r_g0a; clear r_g0a
  have R_g0b := Lib.hid r_g0b; clear r_g0b
  have k_g0 := new_pair w3 (Value.slice A_g0a (parMen a0).length c_g0a) (Value.slice A_g0b (parWom a0).length c_g0b) 24 rfl
  have b_w4 : Below w3.heap.size w3 (w3.alloc (Obj.cells #[Value.slice A_g0a (parMen a0).length c_g0a, Value.slice A_g0b (parWom a0).length c_g0b] 24)) := (Below.refl _ _).alloc (Nat.le_refl _) _
  have z_w4 := World.size_alloc w3 (Obj.cells #[Value.slice A_g0a (parMen a0).length c_g0a, Value.slice A_g0b (parWom a0).length c_g0b] 24)
  replace hm := old_cell hm (Obj.cells #[Value.slice A_g0a (parMen a0).length c_g0a, Value.slice A_g0b (parWom a0).length c_g0b] 24)
  replace k_w00 := old_cell k_w00 (Obj.cells #[Value.slice A_g0a (parMen a0).length c_g0a, Value.slice A_g0b (parWom a0).length c_g0b] 24)
  replace k_w01 := old_cell k_w01 (Obj.cells #[Value.slice A_g0a (parMen a0).length c_g0a, Value.slice A_g0b (parWom a0).length c_g0b] 24)
  go_wp2_with fail
  generalize w3.alloc (Obj.cells #[Value.slice A_g0a (parMen a0).length c_g0a, Value.slice A_g0b (parWom a0).length c_g0b] 24) = w4 at *
  obtain ⟨k_g00, k_g01⟩ := k_g0
  have y_w4 : w3.heap.size < w4.heap.size := by omega
  clear z_w4
  replace o_w0 := o_w0.belowW b_w4
  replace o_g0 := o_g0.belowW b_w4
  replace hT := hT.trans (b_w4.mono hT.size)
  have s_w4 := b_w4.size
  clear b_w4
  go_wp2_with fail
  (with_reducible refine (eqMarket_eq _ _ _ _ _ _ _ _ _ _ _ _ _ _ _ o_g0.men o_w0.men q_g0a R_g0a.out o_g0.women o_w0.women q_g0b R_g0b.out).mono ?_)
  rintro e w5 ⟨rfl, b_w5⟩
  replace o_w0 := o_w0.belowW b_w5
  replace o_g0 := o_g0.belowW b_w5
  replace hm := cell_carry b_w5 hm
  replace k_w00 := cell_carry b_w5 k_w00
  replace k_w01 := cell_carry b_w5 k_w01
  replace k_g00 := cell_carry b_w5 k_g00
  replace k_g01 := cell_carry b_w5 k_g01
  replace hT := hT.trans (b_w5.mono hT.size)
  have s_w5 := b_w5.size
  clear b_w5
  go_wp2_with fail
  (with_reducible refine (markMarketM_any _ _ _ _ _ _ _ _ _ _ _ _ o_g0 q_g0a R_g0a.out q_g0b R_g0b.out (by omega) (by omega) (by omega) (by omega)).mono ?_)
  rintro e w6 ⟨rfl, mo_g0, ho_w6, ge_w6, le_w6⟩
  replace o_w0 := o_w0.only ho_w6 (by omega)
  replace hm := ho_w6.cell hm (by show ¬ (_ ≤ 0 ∧ 0 < _); omega)
  replace k_w00 := ho_w6.cell k_w00 (by (try simp) <;> (try omega))
  replace k_w01 := ho_w6.cell k_w01 (by (try simp) <;> (try omega))
  replace k_g00 := ho_w6.cell k_g00 (by (try simp) <;> (try omega))
  replace k_g01 := ho_w6.cell k_g01 (by (try simp) <;> (try omega))
  replace hT := hT.trans (ho_w6.toBelow (by omega) hT.size)
  have s_w6 := ho_w6.size
  clear ho_w6
  clear o_g0
  go_wp2_with fail
  (with_reducible refine (heldMarket_any _ _ _ _ _ _ _ _ _ _ mo_g0.men q_g0a R_g0a.out mo_g0.women q_g0b R_g0b.out (by omega) (by omega)).mono ?_)
  rintro e w7 ⟨rfl, b_w7⟩
  replace o_w0 := o_w0.belowW b_w7
  replace mo_g0 := mo_g0.belowW b_w7
  replace hm := cell_carry b_w7 hm
  replace k_w00 := cell_carry b_w7 k_w00
  replace k_w01 := cell_carry b_w7 k_w01
  replace k_g00 := cell_carry b_w7 k_g00
  replace k_g01 := cell_carry b_w7 k_g01
  replace hT := hT.trans (b_w7.mono hT.size)
  have s_w7 := b_w7.size
  clear b_w7
  go_wp2_with fail
  (with_reducible refine (implParseMarketD _ _ sm0 m hm).mono ?_)
  rintro e w8 ⟨A_h0a, c_h0a, A_h0b, c_h0b, rfl, o_h0, q_h0a, r_h0a, q_h0b, r_h0b, b_w8⟩
  replace o_w0 := o_w0.belowW b_w8
  replace mo_g0 := mo_g0.belowW b_w8
  replace hm := cell_carry b_w8 hm
  replace k_w00 := cell_carry b_w8 k_w00
  replace k_w01 := cell_carry b_w8 k_w01
  replace k_g00 := cell_carry b_w8 k_g00
  replace k_g01 := cell_carry b_w8 k_g01
  replace hT := hT.trans (b_w8.mono hT.size)
  have s_w8 := b_w8.size
  clear b_w8
  have R_h0a := Lib.hid r_h0a; clear r_h0a
  have R_h0b := Lib.hid r_h0b; clear r_h0b
  have k_h0 := new_pair w8 (Value.slice A_h0a (parMen a0).length c_h0a) (Value.slice A_h0b (parWom a0).length c_h0b) 24 rfl
  have b_w9 : Below w8.heap.size w8 (w8.alloc (Obj.cells #[Value.slice A_h0a (parMen a0).length c_h0a, Value.slice A_h0b (parWom a0).length c_h0b] 24)) := (Below.refl _ _).alloc (Nat.le_refl _) _
  have z_w9 := World.size_alloc w8 (Obj.cells #[Value.slice A_h0a (parMen a0).length c_h0a, Value.slice A_h0b (parWom a0).length c_h0b] 24)
  replace hm := old_cell hm (Obj.cells #[Value.slice A_h0a (parMen a0).length c_h0a, Value.slice A_h0b (parWom a0).length c_h0b] 24)
  replace k_w00 := old_cell k_w00 (Obj.cells #[Value.slice A_h0a (parMen a0).length c_h0a, Value.slice A_h0b (parWom a0).length c_h0b] 24)
  replace k_w01 := old_cell k_w01 (Obj.cells #[Value.slice A_h0a (parMen a0).length c_h0a, Value.slice A_h0b (parWom a0).length c_h0b] 24)
  replace k_g00 := old_cell k_g00 (Obj.cells #[Value.slice A_h0a (parMen a0).length c_h0a, Value.slice A_h0b (parWom a0).length c_h0b] 24)
  replace k_g01 := old_cell k_g01 (Obj.cells #[Value.slice A_h0a (parMen a0).length c_h0a, Value.slice A_h0b (parWom a0).length c_h0b] 24)
  go_wp2_with fail
  generalize w8.alloc (Obj.cells #[Value.slice A_h0a (parMen a0).length c_h0a, Value.slice A_h0b (parWom a0).length c_h0b] 24) = w9 at *
  obtain ⟨k_h00, k_h01⟩ := k_h0
  have y_w9 : w8.heap.size < w9.heap.size := by omega
  clear z_w9
  replace o_w0 := o_w0.belowW b_w9
  replace mo_g0 := mo_g0.belowW b_w9
  replace o_h0 := o_h0.belowW b_w9
  replace hT := hT.trans (b_w9.mono hT.size)
  have s_w9 := b_w9.size
  clear b_w9
  go_wp2_with fail
  (with_reducible refine (eqMarket_eq _ _ _ _ _ _ _ _ _ _ _ _ _ _ _ o_h0.men o_w0.men q_h0a R_h0a.out o_h0.women o_w0.women q_h0b R_h0b.out).mono ?_)
  rintro e w10 ⟨rfl, b_w10⟩
  replace o_w0 := o_w0.belowW b_w10
  replace mo_g0 := mo_g0.belowW b_w10
  replace o_h0 := o_h0.belowW b_w10
  replace hm := cell_carry b_w10 hm
  replace k_w00 := cell_carry b_w10 k_w00
  replace k_w01 := cell_carry b_w10 k_w01
  replace k_g00 := cell_carry b_w10 k_g00
  replace k_g01 := cell_carry b_w10 k_g01
  replace k_h00 := cell_carry b_w10 k_h00
  replace k_h01 := cell_carry b_w10 k_h01
  replace hT := hT.trans (b_w10.mono hT.size)
  have s_w10 := b_w10.size
  clear b_w10
  go_wp2_with fail
  (with_reducible refine (heldMarket_any _ _ _ _ _ _ _ _ _ _ mo_g0.men q_g0a R_g0a.out mo_g0.women q_g0b R_g0b.out (by omega) (by omega)).mono ?_)
  rintro e w11 ⟨rfl, b_w11⟩
  replace o_w0 := o_w0.belowW b_w11
  replace mo_g0 := mo_g0.belowW b_w11
  replace o_h0 := o_h0.belowW b_w11
  replace hm := cell_carry b_w11 hm
  replace k_w00 := cell_carry b_w11 k_w00
  replace k_w01 := cell_carry b_w11 k_w01
  replace k_g00 := cell_carry b_w11 k_g00
  replace k_g01 := cell_carry b_w11 k_g01
  replace k_h00 := cell_carry b_w11 k_h00
  replace k_h01 := cell_carry b_w11 k_h01
  replace hT := hT.trans (b_w11.mono hT.size)
  have s_w11 := b_w11.size
  clear b_w11
  go_wp2_with fail
  go_ret
  exact ⟨rfl, hT⟩
end Go.Proofs.YtnoanomihifobaaDoor
namespace Go
variable {H : Type} {enc : TypeId × Value → H}
/-- The plain wrap with the world's shape and one fact of its heap handed to the contract. -/
theorem returnsInHanded_of_shaped_and {a : Assume} {C : Checked} {os : Os} {f : FuncId} {fn : Func} {s : ChangeSpec} {conds : List PathCond} {apart fresh handsOn again : Bool} {X : World → Array Value → Prop}
    (own : ownKnob C.prog.godebug = none) (started : os.Started) (noInit : C.prog.inits.idxOf? f = none) (hfn : C.prog.funcs[f]? = some fn)
    (witness : ∃ (w : World) (tape : Tape) (i : Input), w.os = os ∧ (w.forCall tape i).Shaped C.prog ∧ i.vars = [] ∧ Input.okWide C.prog (w.forCall tape i) .any w.heap.size f i ∧
      ((s.pre enc C.prog fn conds apart (w.forCall tape i).memory i.args ∧ X (w.forCall tape i).memory i.args) ∧ sizedMet enc C.prog fn (OpenSpec.ofChange s) apart (w.forCall tape i).memory i.args) ∧ a.holds C.prog (lone (Frame.enter C.prog f i.args .normal) [] (w.forCall tape i)))
    (contract : ∀ (W : World) (base : Nat) (args : Array Value) (ds gs : List (DataW H)) (before : List MemPlace),
      (∀ (j : Nat) t v, fn.params[j]? = some t → args[j]? = some v → Value.okWide C.prog W .any base t v) →
      DataW.Whole enc C.prog fn.params.toList s.vars apart W args.toList ds gs before →
      W.ShapedOpen C.prog →
      Calls C.prog f args W fun e W' => ∃ v, e = .returned v ∧ s.post enc C.prog fn apart fresh handsOn again W args v W') :
    ReturnsInHanded a C os f .any (fun w args => (s.pre enc C.prog fn conds apart w args ∧ X w args) ∧ sizedMet enc C.prog fn (OpenSpec.ofChange s) apart w args) (s.post enc C.prog fn apart fresh handsOn again) := by
  refine returnsInHanded_of_calls own started noInit witness ?_
  intro w tape i _ hsh _ hok hpre hholds
  obtain ⟨_, _, _, fn', hfn', _, _, _, _, hval⟩ := hok
  have e : fn' = fn := Option.some.inj (hfn'.symm.trans hfn)
  subst e
  obtain ⟨⟨⟨ds, gs, before, hw, hc⟩, hx⟩, hz⟩ := hpre
  have hw' := DataW.Whole.of_heap (w' := w.forCall tape i) (by rfl) hw
  refine (contract (w.forCall tape i) w.heap.size i.args ds gs before hval hw' hsh).mono fun e W' ⟨v, he, hp⟩ => ?_
  subst he
  exact ChangeSpec.post_blind hp
end Go
namespace Go.Proofs.YtnoanomihifobaaDoor.fnExactParseMarket
open Go.ChangeShapes Go.WideShapes Go.ChangeAt Go.RowKit
open Go.ChangeMaps (open_string shut_string)
set_option linter.unusedVariables false

set_option maxRecDepth 100000 in
theorem lifted (os : Os) (started : os.Started) (H : Type) (enc : TypeId × Value → H) :
    ReturnsInHanded {} Tryd.checked os 3 .any (fun w args => (Rows.fnExactParseMarketSpec.pre enc Tryd.prog Tryd.f3 Rows.fnExactParseMarketRow.domain false w args ∧ laidMetH Tryd.prog Rows.fnExactParseMarketRow.laid w) ∧ sizedMet enc Tryd.prog Tryd.f3 (OpenSpec.ofChange Rows.fnExactParseMarketSpec) false w args)
      (Rows.fnExactParseMarketSpec.post enc Tryd.prog Tryd.f3 false true false false) := by
  refine returnsInHanded_of_shaped_and (C := Tryd.checked) (X := fun w _ => laidMetH Tryd.prog Rows.fnExactParseMarketRow.laid w) own started (by kernel_rfl) Tryd.func3
    (ChangeSpec.witness_shaped (enc := enc) (C := Tryd.checked) (os := os) (X := fun w _ => laidMetH Tryd.prog Rows.fnExactParseMarketRow.laid w) false (World.laidAll Tryd.prog os Rows.fnExactParseMarketRow.laid) #[.string ByteArray.empty] 8 (World.laidAll_os _ _ _)
      (World.shaped_of_ZipB (by kernel_rfl) (by kernel_rfl)) (by kernel_rfl) (by kernel_rfl) (by kernel_rfl)
      (by rw [MakeChecks.laidMetH_plain _ _ _ (by kernel_rfl)]; exact laidMet_laidAll _ (by kernel_rfl) (by kernel_rfl))) ?_
  intro W base args ds gs before hval0 hW hsh
  have hval : ∀ (j : Nat) t v, Tryd.f3.params[j]? = some t → args[j]? = some v → Value.okWide Tryd.prog W .any base t v := hval0
  have hW' := hW
  obtain ⟨p, q, hA0, hV, rfl, hfz, hnd⟩ := hW
  have hA : DataW.TrodAll enc Tryd.prog W 0 (fun _ => true) true Tryd.f3.params.toList args.toList ds p := hA0
  rw [Tryd.params3] at hA hval
  obtain ⟨v0, vs0, d0, ds0, p0, q0, hargs, rfl, rfl, h0, r0⟩ := trodAll_cons hA
  obtain ⟨rfl, rfl, rfl⟩ := trodAll_nil r0
  obtain rfl : args = #[v0] := by cases args; simp_all
  obtain ⟨rfl, rfl⟩ := trodVars_none hV
  obtain ⟨a0, rfl, rfl, rfl, w0⟩ := open_string Tryd.underlying9 (hval 0 9 v0 rfl rfl) h0
  clear hA0 hval0
  obtain ⟨m, hm⟩ := cell_of_shapedOpen_int (g := 0) (t := 3) (k := .i64) (zero := #[.int .i64 0]) hsh (of_decide_eq_true (by kernel_rfl)) (by kernel_rfl) rfl (by kernel_rfl) (by kernel_rfl) (by kernel_rfl)
  refine (law_FnExactParseMarket W m hm a0 w0).mono fun e W' ⟨he, bel⟩ => ?_
  subst he
  exact ⟨_, rfl, _, _, _, [], _, [], hW', trodAll_mk1 (shut_bool Tryd.underlying4 _), (trodAll_cons_mk (shut_string Tryd.underlying9 w0) trodAll_mk0), rfl, bel.frame _, fun h => by cases h⟩

theorem over : Rows.fnExactParseMarketRow.holds Tryd.pinned (OpenSpec.ofChange Rows.fnExactParseMarketSpec) :=
  OpenClaim.holds_of_wide 3 Tryd.f3 rfl rfl rfl rfl rfl rfl rfl ⟨rfl, rfl, rfl, rfl, rfl⟩ rfl rfl rfl rfl rfl (by kernel_rfl) Tryd.func3 (by kernel_rfl)
    (of_decide_eq_true (by kernel_rfl)) (by unfold Func.isWrapper; first | (rw [if_pos (by decide +kernel)]; kernel_rfl) | (rw [if_neg (by decide +kernel)]; exact ⟨rfl, rfl⟩))
    (fun os started H enc _ => lifted os started H enc)

theorem proved : Rows.FnExactParseMarketCardSaid :=
  Claim7.holds_tied_plain_at .later [] [.data, .pinned] true (true, "4b4bb1f30647e4603dd39a25e92a4bdac351e9d7ecb653945639483cdf689325") false over (fun _ h => by cases h) (by kernel_rfl) (fun _ h => by cases h) fnExactParseMarket_row_tie rfl ⟨rfl, rfl⟩ (by kernel_rfl) rfl
    (fun f fn hf hfn => by
      obtain rfl : f = 3 := Option.some.inj ((show Tryd.prog.funcNamed "loop.example/g03202/laws.FnExactParseMarket" = some 3 by kernel_rfl).symm.trans hf) |>.symm
      obtain rfl : fn = Tryd.f3 := (Option.some.inj (Tryd.func3.symm.trans hfn)).symm
      exact ⟨by kernel_rfl, fun j t ht => by
        rw [Tryd.params3] at ht
        have h3 : t = 9 := by
          rcases j with _ | j
          · simpa using ht.symm
          · simp at ht
        subst h3
        exact (show Tryd.prog.wantsStandIn 9 = false by kernel_rfl)⟩)
    (by kernel_rfl)
#print axioms proved
end Go.Proofs.YtnoanomihifobaaDoor.fnExactParseMarket
