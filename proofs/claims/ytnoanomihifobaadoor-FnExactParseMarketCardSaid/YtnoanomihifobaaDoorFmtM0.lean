/- The text of a market: plain lists, and rows of strings joined one behind the other. -/
import Derived.Test.YtnoanomihifobaaDoorTextR
import Derived.Test.YtnoanomihifobaaDoorMkt
import Derived.Lib.Join
namespace Go.Proofs.YtnoanomihifobaaDoor
set_option linter.unusedVariables false
open Go.RowKit

/-- words with a blank between -/
def joinN : List (List Int) → List Int
  | [] => []
  | x :: r => x ++ (r.map ([32] ++ ·)).flatten
theorem joinN_snoc (T : List (List Int)) (y : List Int) (h : T ≠ []) : joinN (T ++ [y]) = joinN T ++ [32] ++ y := by
  cases T with
  | nil => exact absurd rfl h
  | cons x r => simp [joinN]
theorem joinN_one (y : List Int) : joinN ([] ++ [y]) = y := by simp [joinN]
theorem joinN_lib (T : List (List Int)) : Lib.join ((T.map strOfNums).map (·.data.toList)) [32] = (joinN T).map fun n => UInt8.ofNat n.toNat := by
  cases T with
  | nil => rfl
  | cons x r =>
    rw [List.map_cons, List.map_cons, Lib.join_cons]
    simp only [joinN, List.map_append, strOfNums_data, Lib.joinTail, List.map_flatten, List.map_map]
    congr 1
def wordsM (xss yss : List (List Int)) : List (List Int) := xss.map rankNums ++ [[124]] ++ yss.map rankNums
def fmtMarket (xss yss : List (List Int)) : ByteArray := if marketOk xss yss then strOfNums (joinN (wordsM xss yss)) else ⟨#[]⟩
theorem fmtMarket_no {xss yss : List (List Int)} (h : marketOk xss yss = false) : fmtMarket xss yss = ⟨#[]⟩ := by unfold fmtMarket; rw [h]; rfl
theorem fmtMarket_yes {xss yss : List (List Int)} (h : marketOk xss yss = true) : fmtMarket xss yss = strOfNums (joinN (wordsM xss yss)) := by unfold fmtMarket; rw [if_pos h]
theorem textsOf_words (xss : List (List Int)) : textsOf xss = (xss.map rankNums).map strOfNums := by simp [textsOf]
theorem joinN_len (T : List (List Int)) (m : Nat) (h : ∀ x ∈ T, x.length ≤ m) : (joinN T).length ≤ T.length * (m + 1) := by
  cases T with
  | nil => simp [joinN]
  | cons x r =>
    have h0 := h x (by simp)
    have hr : ∀ (r : List (List Int)), (∀ x ∈ r, x.length ≤ m) → (r.map ([32] ++ ·)).flatten.length ≤ r.length * (m + 1) := by
      intro r
      induction r with
      | nil => intro _; simp
      | cons y r ih =>
        intro hh
        have h1 := ih fun z hz => hh z (by simp [hz])
        have h2 := hh y (by simp)
        simp only [List.map_cons, List.flatten_cons, List.length_append, List.length_cons, Nat.add_mul, List.length_nil] at h1 ⊢
        omega
    have h1 := hr r fun y hy => h y (by simp [hy])
    simp only [joinN, List.length_append, List.length_cons, Nat.add_mul] at h1 ⊢
    omega
/-- n rows of strings lie at A -/
def StrRowsAt (w : World) (A : Option Addr) (n : Nat) (tss : List (List ByteArray)) : Prop := tss.length = n ∧ (0 < n → ∃ b o, A = some ⟨b, o, none⟩ ∧ ∀ j (hj : j < tss.length), ∃ g oo c', w.cell? ⟨b, o + j, none⟩ = some (.slice (some ⟨g, oo, none⟩) (tss[j]).length c') ∧ StrsAt w (some ⟨g, oo, none⟩) (tss[j]).length tss[j])
theorem StrRowsAt.at_ {w : World} {A : Option Addr} {n k : Nat} {tss : List (List ByteArray)} (h : StrRowsAt w A n tss) (hk : k < tss.length) : ∃ b o g oo c', A = some ⟨b, o, none⟩ ∧ w.cell? ⟨b, o + k, none⟩ = some (.slice (some ⟨g, oo, none⟩) (tss[k]).length c') ∧ StrsAt w (some ⟨g, oo, none⟩) (tss[k]).length tss[k] := by
  obtain ⟨b, o, e, hc⟩ := h.2 (by have := h.1; omega)
  obtain ⟨g, oo, c', h1, h2⟩ := hc k hk
  exact ⟨b, o, g, oo, c', e, h1, h2⟩
theorem StrRowsAt.below {w w' : World} {A : Option Addr} {n : Nat} {tss : List (List ByteArray)} (h : StrRowsAt w A n tss) (hb : Below w.heap.size w w') : StrRowsAt w' A n tss := by
  refine ⟨h.1, fun hn => ?_⟩
  obtain ⟨b, o, e, hc⟩ := h.2 hn
  refine ⟨b, o, e, fun j hj => ?_⟩
  obtain ⟨g, oo, c', h1, h2⟩ := hc j hj
  exact ⟨g, oo, c', (hb.cell (p := ⟨b, o + j, none⟩) (cell_lt h1)).trans h1, h2.below hb⟩
theorem run_append_madeS {P : Program} (w : World) (t u ty e : TypeId) (i : TypeInfo) (z : Value) (ht : P.underlying t = some (.slice e)) (hu : P.underlying u = some (.int .i64)) (hi : P.info? e = some i) (hz : i.zero = some z) (hzc : z.cells.size = 1) (hs : i.size = 1) (hb : i.bytes = 16)
    (n : Nat) (h0 : 0 < n) (h63 : n ≤ 1048576) :
    (Builtin.append_ #[t, u] ty #[.slice none 0 0, .int .i64 (n : Int)]).run P w =
      .ok (.slice (some ⟨w.heap.size, 0, none⟩) n (grownCap w n 0 e)) (w.drew.alloc (.cells (Builtin.zeroCells z.cells n ++ Builtin.zeroCells z.cells (grownCap w n 0 e - n)) e)) := by
  have hn : n ≠ 0 := by omega
  have h63' : ¬ (9223372036854775807 < (n : Int)) := by omega
  have h48' : ¬ (281474976710656 < Builtin.nextslicecap n 0 * i.bytes) := by rw [nextslicecap_zero h0, hb]; omega
  have h48b : ¬ (281474976710656 < Builtin.nextslicecap n 0 * 16) := by rw [nextslicecap_zero h0]; omega
  have hw : IntKind.i64.wrap (n : Int) = (n : Int) := by rw [IntKind.wrap_i64]; omega
  have h1 : ¬ ((n : Int) < 0) := by omega
  have h2 : ¬ (281474976710656 < (n : Int) * 16) := by omega
  simp [Builtin.append_, run_underlying ht, run_underlying hu, sizeOf, typeInfo, zeroValue, hi, hz, hs, hb, Builtin.lenOf, hn, h63', h48', h48b, hw, h1, h2, Question.forced, run_firstCells_none, newRow, grownCap, asInt, asIntOf]
theorem OwnS.made (w : World) (n cap : Nat) (hc : n ≤ cap) (hm : cap ≤ maxLen) :
    OwnS (w.drew.alloc (.cells (Builtin.zeroCells (Value.string ⟨#[]⟩).cells n ++ Builtin.zeroCells (Value.string ⟨#[]⟩).cells (cap - n)) 9)) w.heap.size (.slice (some ⟨w.heap.size, 0, none⟩) 0 cap) [] := by
  refine ⟨rfl, .inr ⟨w.heap.size, cap, _, rfl, Nat.le_refl _, heap_alloc_new w.drew _, Nat.zero_le _, hm, ?_, by simp⟩⟩
  simp only [Array.size_append, size_zeroCells]
  simp [Value.cells]
  omega
section
variable {ops : Array Oper} {rest : List Oper} {o : Oper} {a : Act} {Q : Exit → Act → World → Prop}
theorem wpList_append_madeS (w : World) (hg : o.guard = none) (s x : Operand) (hop : o.op = Op.call { callee := Callee.builtin Builtin.append, args := #[s, x], argTypes := #[30, 3] })
    (n : Nat) (hs : a.eval s = .slice none 0 0) (hx : a.eval x = .int .i64 (n : Int)) (h0 : 0 < n) (hn : n ≤ 1048576)
    (hK : ∀ cap w', n ≤ cap → OwnS w' w.heap.size (.slice (some ⟨w.heap.size, 0, none⟩) 0 cap) [] → Below w.heap.size w w' → wpList Tryd.prog ops Q rest (a.put o.dst (.slice (some ⟨w.heap.size, 0, none⟩) n cap)) w') :
    wpList Tryd.prog ops Q (o :: rest) a w := by
  obtain ⟨i0, hi, hz0, hz1, hz2⟩ := info_parts infoS
  refine wpList_plain hg fun K hK' => ?_
  have hrun := run_append_madeS (P := Tryd.prog) w 30 3 o.type 9 i0 (.string ⟨#[]⟩) Tryd.underlying30 Tryd.underlying3 hi hz0 rfl hz1 hz2 n h0 hn
  have hge := grownCap_ge w n 0 9
  have hcm : grownCap w n 0 9 ≤ maxLen := grownCap_le_maxLen w n 0 9 (by unfold maxLen; omega)
  unfold Oper.wp
  simp [execOp, hop, resolve, invoke, builtin, hs, hx, hrun, Result.andThen]
  exact hK' _ _ (hK _ _ hge (OwnS.made w n _ hge hcm) (((Below.refl _ _).drew).alloc (Nat.le_refl _) _))
end
set_option maxHeartbeats 800000 in
theorem growS_nil (n : Nat) (w : World) (h0 : 0 < n) (hn : n ≤ 1048576) :
    Calls Tryd.prog 43 #[.slice none 0 0, .int .i64 (n : Int)] w fun e w' => ∃ A c, e = .returned (.slice A 0 c) ∧ OwnS w' w.heap.size (.slice A 0 c) [] ∧ Below w.heap.size w w' := by
  have h1 : ¬ ((n : Int) < 0) := by omega
  have hpi : (0 : Int) < (n : Int) := by omega
  go_enter Tryd.func43, Tryd.ntmps43
  go_wp2_with (at_builtin; refine wpList_append_madeS _ rfl _ _ rfl n rfl rfl h0 hn ?_)
  intro cap w2 hc ho hb
  have z := hb.size
  go_wp2
  go_ret
  exact ⟨_, _, rfl, ho, hb⟩
/-- the strings one row after the other -/
def flatS (tss : List (List ByteArray)) : List ByteArray := tss.flatten
theorem flatS_take {tss : List (List ByteArray)} {k : Nat} (h : k < tss.length) : flatS (tss.take (k + 1)) = flatS (tss.take k) ++ tss[k] := by
  unfold flatS
  rw [List.take_succ_eq_append_getElem h, List.flatten_append]; simp
theorem flatS_le (tss : List (List ByteArray)) (k : Nat) : (flatS (tss.take k)).length ≤ (flatS tss).length := by
  unfold flatS
  conv => rhs; rw [← List.take_append_drop k tss, List.flatten_append, List.length_append]
  omega
set_option maxHeartbeats 1600000 in
theorem concatS_any (A : Option Addr) (n c : Nat) (tss : List (List ByteArray)) (w : World) (h : StrRowsAt w A n tss) (hn : n ≤ 1048576) (hf : (flatS tss).length ≤ 1000) (hf0 : 0 < (flatS tss).length) :
    Calls Tryd.prog 29 #[.slice A n c] w fun e w' => ∃ A' c', e = .returned (.slice A' (flatS tss).length c') ∧ OwnS w' w.heap.size (.slice A' (flatS tss).length c') (flatS tss) ∧ Below w.heap.size w w' := by
  obtain rfl := h.1
  have HF := Lib.hid (fun k (hk : k < tss.length) => (by rw [flatS_take hk, List.length_append] : (flatS (tss.take (k + 1))).length = (flatS (tss.take k)).length + (tss[k]).length))
  have HA := Lib.hid (fun k (hk : k < tss.length) => flatS_take (tss := tss) hk)
  have HL := Lib.hid (flatS_le tss)
  have HE := Lib.hid (show flatS (tss.take tss.length) = flatS tss by rw [List.take_length])
  have H0 : flatS (tss.take 0) = [] := by simp [flatS]
  obtain ⟨T, hT⟩ : ∃ T : Nat → List ByteArray, ∀ k, T k = flatS (tss.take k) := ⟨_, fun _ => rfl⟩
  simp only [← hT] at HF HA HL HE H0
  clear hT
  have H0L : (T 0).length = 0 := by rw [H0]; rfl
  have HZ := Lib.hid H0
  have HZL := Lib.hid H0L
  clear H0 H0L
  go_enter Tryd.func29, Tryd.ntmps29
  go_wp2
  go_loop [3, 5, 11] (fun v _ i => ∃ k : Nat, k ≤ tss.length ∧ i = .int .i64 k ∧ v = .int .i64 ((T k).length : Int)) (fun _ _ i => tss.length - (intOf i).toNat)
  case atStart => exact ⟨0, Nat.zero_le _, rfl, by rw [HZL.out]; rfl⟩
  case round =>
    obtain ⟨k, hk, rfl, rfl⟩ := hrel
    have hl := HL.out k
    by_cases hlt : k < tss.length
    · obtain ⟨b, o, g, oo, c', rfl, hck, hin⟩ := h.at_ hlt
      have hs := HF.out k hlt
      have hl2 := HL.out (k + 1)
      have HS := Lib.hid hs
      obtain ⟨L, hL⟩ : ∃ L, (tss[k]).length = L := ⟨_, rfl⟩
      rw [hL] at hck HS hs
      have hs2 : (T k).length + L ≤ 1000 := by omega
      have nn : ¬ (((T k).length : Int) + (L : Int) < 0) := by omega
      clear hs hl2 hL hin
      go_wp2
      go_round
      case rel => exact ⟨k + 1, by omega, by go_num, by rw [HS.out]; go_num⟩
      case measure => simp [intOf]; omega
    · obtain rfl : k = tss.length := by omega
      rw [HE.out]
      go_wp2_with fail
      (with_reducible refine (growS_nil _ _ hf0 (by omega)).mono ?_)
      rintro e w1 ⟨A1, c1, rfl, o1, b1⟩
      go_wp2
      go_loopw [6, 8, 27] (fun v _ i wr => ∃ (k : Nat) (A' : Option Addr) (c' : Nat), k ≤ tss.length ∧ i = .int .i64 k ∧ v = .slice A' (T k).length c' ∧ OwnS wr w.heap.size (.slice A' (T k).length c') (T k) ∧ Below w.heap.size w wr) (fun _ _ i _ => tss.length - (intOf i).toNat)
      case atStart => exact ⟨0, _, _, Nat.zero_le _, rfl, by rw [HZL.out], by rw [HZ.out]; exact o1, b1⟩
      case round =>
        obtain ⟨k, A2, c2, hk2, rfl, rfl, hown, hb⟩ := hrel
        have zr := hb.size
        have hl3 := HL.out k
        by_cases hlt2 : k < tss.length
        · obtain ⟨b, o, g, oo, c', rfl, hck, hin⟩ := (h.below hb).at_ hlt2
          have hs := HF.out k hlt2
          have hl2 := HL.out (k + 1)
          have HS := Lib.hid hs
          have HSX := Lib.hid (HA.out k hlt2)
          generalize tss[k] = ys at *
          have hs2 : (T k).length + ys.length ≤ 1000 := by omega
          clear hs hl2
          have hcc : ∀ j, j < ys.length → wr.cell? ⟨g, oo + j, none⟩ = some (.string (sx ys j)) := fun j hj => by
            obtain ⟨b', o', e', _, hc'⟩ := hin.at_ hj
            cases e'
            exact hc' j hj
          have HCC := Lib.hid hcc
          clear hcc hin
          go_wp2_with (at_builtin; refine wpList_append_strs _ rfl _ _ rfl w.heap.size _ _ _ (T k) rfl hown g oo _ c' ys rfl rfl HCC.out (by omega) zr ?_)
          intro A3 c3 w3 o3 hgr
          rw [← HSX.out, ← HS.out] at o3
          have hb3 := hb.grown hgr zr (fun j e => (World.ownsRow.lt hown j e).1)
          clear hgr hown hb hck
          go_wp2
          go_roundw
          case rel => exact ⟨k + 1, _, _, by omega, by go_num, by rw [HS.out], o3, hb3⟩
          case measure => simp [intOf]; omega
        · obtain rfl : k = tss.length := by omega
          rw [HE.out] at hown ⊢
          go_wp2
          go_ret
          exact ⟨_, _, rfl, hown, hb⟩
set_option maxHeartbeats 800000 in
theorem rankingTexts_any {m : Nat} (A : Option Addr) (n c : Nat) (xss : List (List Int)) (w : World) (h : RowsAt w A n xss) (hn : n ≤ 1000) (hr : ∀ i, i < n → rankOk m (rx xss i) = true) :
    Calls Tryd.prog 30 #[.slice A n c] w fun e w' => ∃ A' c', e = .returned (.slice A' n c') ∧ OwnS w' w.heap.size (.slice A' n c') (textsOf xss) ∧ Below w.heap.size w w' := by
  obtain rfl := h.len
  have HR := Lib.hid hr
  clear hr
  go_enter Tryd.func30, Tryd.ntmps30
  go_wp2
  go_loopw [3, 5, 8] (fun v _ i_ wr => ∃ (k : Nat) (A' : Option Addr) (c' : Nat), k ≤ xss.length ∧ i_ = .int .i64 k ∧ v = .slice A' k c' ∧ OwnS wr w.heap.size (.slice A' k c') (textsOf (xss.take k)) ∧ Below w.heap.size w wr) (fun _ _ i_ _ => xss.length - (intOf i_).toNat)
  case atStart => exact ⟨0, none, 0, Nat.zero_le _, rfl, rfl, OwnS.nil _ _, Below.refl _ _⟩
  case round =>
    obtain ⟨k, A1, c1, hk, rfl, rfl, hown, hb⟩ := hrel
    have zr := hb.size
    by_cases hlt : k < xss.length
    · obtain ⟨b, o, A', c', rfl, _, hck, hcc, hin⟩ := (h.below hb).at_ hlt
      go_wp2_with fail
      (with_reducible refine (implFormatRanking _ _ _ _ _ hin hcc (HR.out k hlt)).mono ?_)
      rintro e w3 ⟨rfl, hb3⟩
      have hbn := hb.trans (hb3.mono zr)
      have zn := hbn.size
      have hown2 := hown.belowW hb3
      have HS := Lib.hid (textsOf_take hlt)
      clear hb3 hb hown hck hin
      generalize strOfNums (rankNums (rx xss k)) = t at *
      go_wp2_with (at_builtin; refine wpList_append_str _ rfl _ _ rfl w.heap.size k _ _ _ rfl (hown2.belowW ((Below.refl _ _).alloc (Nat.le_refl _) _)) t _ 1 rfl (new_cell _ _ _ rfl) (by omega) (by simp; omega) ?_)
      intro A3 c3 w4 o3 hgr
      rw [← HS.out] at o3
      have hb4 := (hbn.alloc zn (.cells #[.string t] 9)).grown hgr (by simp; omega) (fun j e => (World.ownsRow.lt hown2 j e).1)
      clear hgr hown2 hbn
      go_wp2
      go_roundw
      case rel => exact ⟨k + 1, _, _, by omega, by go_num, rfl, o3, hb4⟩
      case measure => simp [intOf]; omega
    · obtain rfl : k = xss.length := by omega
      rw [List.take_length] at hown
      go_wp2
      go_ret
      exact ⟨_, _, rfl, hown, hb⟩
end Go.Proofs.YtnoanomihifobaaDoor
