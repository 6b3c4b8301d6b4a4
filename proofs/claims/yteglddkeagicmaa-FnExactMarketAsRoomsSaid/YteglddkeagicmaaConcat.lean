/- slices.Grow of nil and slices.Concat. -/
import Derived.Test.YteglddkeagicmaaBaseR
namespace Go.Proofs.Yteglddkeagicmaa
set_option linter.unusedVariables false
open Go.RowKit

theorem run_append_made {P : Program} (w : World) (t u ty e : TypeId) (i : TypeInfo) (z : Value) (ht : P.underlying t = some (.slice e)) (hu : P.underlying u = some (.int .i64)) (hi : P.info? e = some i) (hz : i.zero = some z) (hzc : z.cells.size = 1) (hs : i.size = 1) (hb : i.bytes = 8)
    (n : Nat) (h0 : 0 < n) (h63 : n ≤ 1048576) :
    (Builtin.append_ #[t, u] ty #[.slice none 0 0, .int .i64 (n : Int)]).run P w =
      .ok (.slice (some ⟨w.heap.size, 0, none⟩) n (grownCap w n 0 e)) (w.drew.alloc (.cells (Builtin.zeroCells z.cells n ++ Builtin.zeroCells z.cells (grownCap w n 0 e - n)) e)) := by
  have hn : n ≠ 0 := by omega
  have h63' : ¬ (9223372036854775807 < (n : Int)) := by omega
  have h48' : ¬ (281474976710656 < Builtin.nextslicecap n 0 * i.bytes) := by rw [nextslicecap_zero h0, hb]; omega
  have h48b : ¬ (281474976710656 < Builtin.nextslicecap n 0 * 8) := by rw [nextslicecap_zero h0]; omega
  have hw : IntKind.i64.wrap (n : Int) = (n : Int) := by rw [IntKind.wrap_i64]; omega
  have h1 : ¬ ((n : Int) < 0) := by omega
  have h2 : ¬ (281474976710656 < (n : Int) * 8) := by omega
  simp [Builtin.append_, run_underlying ht, run_underlying hu, sizeOf, typeInfo, zeroValue, hi, hz, hs, hb, Builtin.lenOf, hn, h63', h48', h48b, hw, h1, h2, Question.forced, run_firstCells_none, newRow, grownCap, asInt, asIntOf]


/-- a grown row with nothing in it -/
theorem OwnI.made (w : World) (n cap : Nat) (hc : n ≤ cap) (hm : cap ≤ maxLen) :
    OwnI (w.drew.alloc (.cells (Builtin.zeroCells (Value.int .i64 0).cells n ++ Builtin.zeroCells (Value.int .i64 0).cells (cap - n)) 3)) w.heap.size (w.heap.size + 1) (.slice (some ⟨w.heap.size, 0, none⟩) 0 cap) [] := by
  refine ⟨⟨rfl, .inr ⟨w.heap.size, cap, _, rfl, Nat.le_refl _, heap_alloc_new w.drew _, Nat.zero_le _, hm, ?_, by simp⟩⟩, fun k e => by simp [Value.ownBlock] at e; omega⟩
  simp only [Array.size_append, size_zeroCells]
  simp [Value.cells]
  omega
section
variable {ops : Array Oper} {rest : List Oper} {o : Oper} {a : Act} {Q : Exit → Act → World → Prop}
/-- 'append([]int(nil)[:0], make([]int, n)...)' -/
theorem wpList_append_made (w : World) (hg : o.guard = none) (s x : Operand) (hop : o.op = Op.call { callee := Callee.builtin Builtin.append, args := #[s, x], argTypes := #[22, 3] })
    (n : Nat) (hs : a.eval s = .slice none 0 0) (hx : a.eval x = .int .i64 (n : Int)) (h0 : 0 < n) (hn : n ≤ 1048576)
    (hK : ∀ cap w', n ≤ cap → OwnI w' w.heap.size (w.heap.size + 1) (.slice (some ⟨w.heap.size, 0, none⟩) 0 cap) [] → Below w.heap.size w w' → w'.heap.size = w.heap.size + 1 → wpList Try.prog ops Q rest (a.put o.dst (.slice (some ⟨w.heap.size, 0, none⟩) n cap)) w') :
    wpList Try.prog ops Q (o :: rest) a w := by
  obtain ⟨i0, hi, hz0, hz1, hz2⟩ := info_parts infoI
  refine wpList_plain hg fun K hK' => ?_
  have hrun := run_append_made (P := Try.prog) w 22 3 o.type 3 i0 (.int .i64 0) Try.underlying22 Try.underlying3 hi hz0 rfl hz1 hz2 n h0 hn
  have hge := grownCap_ge w n 0 3
  have hcm : grownCap w n 0 3 ≤ maxLen := grownCap_le_maxLen w n 0 3 (by unfold maxLen; omega)
  unfold Oper.wp
  simp [execOp, hop, resolve, invoke, builtin, hs, hx, hrun, Result.andThen]
  exact hK' _ _ (hK _ _ hge (OwnI.made w n _ hge hcm) (((Below.refl _ _).drew).alloc (Nat.le_refl _) _) (by simp))
end
set_option maxHeartbeats 800000 in
theorem grow_nil (n : Nat) (w : World) (hn : n ≤ 1048576) :
    Calls Try.prog 69 #[.slice none 0 0, .int .i64 (n : Int)] w fun e w' => ∃ A c, e = .returned (.slice A 0 c) ∧ OwnI w' w.heap.size w'.heap.size (.slice A 0 c) [] ∧ Below w.heap.size w w' := by
  have h1 : ¬ ((n : Int) < 0) := by omega
  by_cases h0 : n = 0
  · subst h0
    go_enter Try.func69, Try.ntmps69
    go_wp2
    go_ret
    exact ⟨none, 0, rfl, OwnI.nil _ _ _, Below.refl _ _⟩
  · have hp : 0 < n := by omega
    have hpi : (0 : Int) < (n : Int) := by omega
    clear h0
    go_enter Try.func69, Try.ntmps69
    go_wp2_with (at_builtin; refine wpList_append_made _ rfl _ _ rfl n rfl rfl hp hn ?_)
    intro cap w2 hc ho hb hs
    have z := hb.size
    have HS := Lib.hid hs
    clear hs
    go_wp2
    go_ret
    exact ⟨_, _, rfl, ho.mono (Nat.le_refl _) (Nat.le_of_eq HS.out.symm), hb⟩
/-- the rows one after the other, behind a name that the walk does not open -/
def flatL (xss : List (List Int)) : List Int := xss.flatten
theorem flat_take {xss : List (List Int)} {k : Nat} (h : k < xss.length) : flatL (xss.take (k + 1)) = flatL (xss.take k) ++ rx xss k := by
  unfold flatL
  rw [take_rx h, List.flatten_append]; simp
theorem flat_le (xss : List (List Int)) (k : Nat) : (flatL (xss.take k)).length ≤ (flatL xss).length := by
  unfold flatL
  conv => rhs; rw [← List.take_append_drop k xss, List.flatten_append, List.length_append]
  omega
theorem flatL_2 (a b : List Int) : flatL [a, b] = a ++ b := by simp [flatL]
set_option maxHeartbeats 1600000 in
theorem concat_any (A : Option Addr) (n c : Nat) (xss : List (List Int)) (w : World) (h : RowsAt w A n xss) (hn : n ≤ 1048576) (hf : (flatL xss).length ≤ 1048576) :
    Calls Try.prog 56 #[.slice A n c] w fun e w' => ∃ A' c', e = .returned (.slice A' (flatL xss).length c') ∧ OwnI w' w.heap.size w'.heap.size (.slice A' (flatL xss).length c') (flatL xss) ∧ Below w.heap.size w w' := by
  obtain rfl := h.len
  have HF := Lib.hid (fun k (hk : k < xss.length) => (by rw [flat_take hk, List.length_append] : (flatL (xss.take (k + 1))).length = (flatL (xss.take k)).length + (rx xss k).length))
  have HA := Lib.hid (fun k (hk : k < xss.length) => flat_take (xss := xss) hk)
  have HL := Lib.hid (flat_le xss)
  have HE := Lib.hid (show flatL (xss.take xss.length) = flatL xss by rw [List.take_length])
  have H0 : flatL (xss.take 0) = [] := by simp [flatL]
  obtain ⟨T, hT⟩ : ∃ T : Nat → List Int, ∀ k, T k = flatL (xss.take k) := ⟨_, fun _ => rfl⟩
  simp only [← hT] at HF HA HL HE H0
  clear hT
  have H0L : (T 0).length = 0 := by rw [H0]; rfl
  have HZ := Lib.hid H0
  have HZL := Lib.hid H0L
  clear H0 H0L
  go_enter Try.func56, Try.ntmps56
  go_wp2
  go_loop [3, 5, 11] (fun v _ i => ∃ k : Nat, k ≤ xss.length ∧ i = .int .i64 k ∧ v = .int .i64 ((T k).length : Int)) (fun _ _ i => xss.length - (intOf i).toNat)
  case atStart => exact ⟨0, Nat.zero_le _, rfl, by rw [HZL.out]; rfl⟩
  case round =>
    obtain ⟨k, hk, rfl, rfl⟩ := hrel
    have hl := HL.out k
    by_cases hlt : k < xss.length
    · obtain ⟨b, o, A', c', rfl, _, hck, hcc, hin⟩ := h.at_ hlt
      have hs := HF.out k hlt
      have hl2 := HL.out (k + 1)
      have hs2 : (T k).length + (rx xss k).length ≤ 1048576 := by omega
      have HS := Lib.hid hs
      have nn : ¬ (((T k).length : Int) + ((rx xss k).length : Int) < 0) := by omega
      clear hs hl2
      go_wp2
      go_round
      case rel => exact ⟨k + 1, by omega, by go_num, by rw [HS.out]; go_num⟩
      case measure => simp [intOf]; omega
    · obtain rfl : k = xss.length := by omega
      rw [HE.out]
      go_wp2_with fail
      (with_reducible refine (grow_nil _ _ hf).mono ?_)
      rintro e w1 ⟨A1, c1, rfl, o1, b1⟩
      go_wp2
      go_loopw [6, 8, 27] (fun v _ i wr => ∃ (k : Nat) (A' : Option Addr) (c' : Nat), k ≤ xss.length ∧ i = .int .i64 k ∧ v = .slice A' (T k).length c' ∧ OwnI wr w.heap.size wr.heap.size (.slice A' (T k).length c') (T k) ∧ Below w.heap.size w wr) (fun _ _ i _ => xss.length - (intOf i).toNat)
      case atStart => exact ⟨0, _, _, Nat.zero_le _, rfl, by rw [HZL.out], by rw [HZ.out]; exact o1, b1⟩
      case round =>
        obtain ⟨k, A2, c2, hk2, rfl, rfl, hown, hb⟩ := hrel
        have zr := hb.size
        have hl3 := HL.out k
        by_cases hlt2 : k < xss.length
        · obtain ⟨b, o, A', c', rfl, _, hck, hcc, hin⟩ := (h.below hb).at_ hlt2
          have hs := HF.out k hlt2
          have hl2 := HL.out (k + 1)
          have hs2 : (T k).length + (rx xss k).length ≤ 1048576 := by omega
          have HS := Lib.hid hs
          clear hs hl2
          go_wp2_with (at_builtin; refine wpList_append_ints _ rfl _ _ rfl w.heap.size wr.heap.size _ _ _ (T k) rfl hown A' _ c' (rx xss k) rfl hin (by omega) zr (Nat.le_refl _) ?_)
          intro A3 c3 w3 o3 hon
          rw [← HA.out k hlt2, ← HS.out] at o3
          have hb3 := hb.trans (hon.toBelow (Nat.le_refl _) zr)
          clear hon hown hb hin hck
          go_wp2
          go_roundw
          case rel => exact ⟨k + 1, _, _, by omega, by go_num, by rw [HS.out], o3, hb3⟩
          case measure => simp [intOf]; omega
        · obtain rfl : k = xss.length := by omega
          rw [HE.out] at hown ⊢
          go_wp2
          go_ret
          exact ⟨_, _, rfl, hown, hb⟩
end Go.Proofs.Yteglddkeagicmaa
