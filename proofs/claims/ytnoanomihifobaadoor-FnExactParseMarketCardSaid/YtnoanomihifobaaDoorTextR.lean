/- The text of a ranking: both sides. -/
import Derived.Test.YtnoanomihifobaaDoorBaseS
import Derived.Test.YtnoanomihifobaaDoorRankOk
import Derived.Test.YtnoanomihifobaaDoorMarket
namespace Go.Proofs.YtnoanomihifobaaDoor
set_option linter.unusedVariables false
open Go.RowKit

theorem rankText_len {n : Nat} {xs : List Int} (h : rankOk n xs = true) : xs.length = n := by have := (rankOk_facts h).2.2.1; omega
theorem rankNums_take {xs : List Int} {k : Nat} (h : k < xs.length) : rankNums (xs.take (k + 1)) = rankNums (xs.take k) ++ [97 + ix xs k] := by unfold rankNums; rw [take_ix h]; simp
theorem letter_any (a : Int) (w : World) (h0 : 0 ≤ a) (h1 : a ≤ 100) : Calls Tryd.prog 35 #[.int .i64 a] w fun e w' => e = .returned (.string (strOfNums [97 + a])) ∧ Below w.heap.size w w' := by
  have hw : IntKind.u8.wrap (97 + a) = 97 + a := by rw [IntKind.wrap_u8]; omega
  have hb := (Below.refl w.heap.size w).alloc (Nat.le_refl _) (.cells #[.int .u8 (97 + a)] 5)
  have hc := run_convert_bytes_arg (P := Tryd.prog) (w.alloc (.cells #[.int .u8 (97 + a)] 5)) 58 5 Tryd.underlying58 Tryd.underlying5 w.heap.size 0 1 1 [97 + a] rfl (fun i hi => by
    obtain rfl : i = 0 := by omega
    rw [new_cell _ _ _ rfl]; rfl) 9 Tryd.underlying9
  go_enter Tryd.func35, Tryd.ntmps35
  go_wp2
  go_ret
  exact ⟨rfl, hb⟩
set_option maxHeartbeats 800000 in
theorem specFormatRanking {m : Nat} (A : Option Addr) (n c : Nat) (xs : List Int) (w : World) (h : IntsAt w A n xs) (hc : n ≤ c) (hr : rankOk m xs = true) :
    Calls Tryd.prog 20 #[.slice A n c] w fun e w' => e = .returned (.string (strOfNums (rankNums xs))) ∧ Below w.heap.size w w' := by
  obtain rfl := h.len
  have hl := rankText_len hr
  have F := Lib.hid (rankOk_facts hr)
  have h5 : xs.length ≤ 5 := by have := F.out.2.1; omega
  have hr' : rankOk (xs.length : Int) xs = true := by rw [hl]; exact hr
  have HR := Lib.hid hr'
  have H0 : Hid (strOfNums (rankNums (xs.take 0)) = ⟨#[]⟩) := rfl
  have HS := Lib.hid (fun k (hk : k < xs.length) => (by rw [str_append, ← rankNums_take hk] : strOfNums (rankNums (xs.take k)) ++ strOfNums [97 + ix xs k] = strOfNums (rankNums (xs.take (k + 1)))))
  have HE : Hid (strOfNums (rankNums (xs.take xs.length)) = strOfNums (rankNums xs)) := by show _ = _; rw [List.take_length]
  have HZ := Lib.hid (fun k => (by rw [strOfNums_size]; simp [rankNums]; omega : (strOfNums (rankNums (xs.take k))).size ≤ 5))
  obtain ⟨T, hT⟩ : ∃ T : Nat → ByteArray, ∀ k, strOfNums (rankNums (xs.take k)) = T k := ⟨_, fun _ => rfl⟩
  simp only [hT] at H0 HS HE HZ
  clear hr hr' hl hT
  go_enter Tryd.func20, Tryd.ntmps20
  go_wp2_with fail
  (with_reducible refine (specRankingOk _ _ _ _ _ _ h (by omega) hc).mono ?_)
  rintro e w1 ⟨rfl, hb⟩
  rw [HR.out]
  go_wp2
  go_loopw [3, 5, 13] (fun v _ i_ wr => ∃ k : Nat, k ≤ xs.length ∧ i_ = .int .i64 k ∧ v = .string (T k) ∧ Below w.heap.size w wr) (fun _ _ i_ _ => xs.length - (intOf i_).toNat)
  case atStart => exact ⟨0, Nat.zero_le _, rfl, by rw [H0.out], hb⟩
  case round =>
    obtain ⟨k, hk, rfl, rfl, hbr⟩ := hrel
    have zr := hbr.size
    by_cases hlt : k < xs.length
    · obtain ⟨b, o, rfl, _, hcx⟩ := (h.below hbr).at_ hlt
      have cx := hcx k hlt
      have xb := F.out.2.2.2 k hlt
      have f2 := F.out.2.1
      clear hcx
      have HS2 := Lib.hid (HS.out k hlt)
      generalize ix xs k = x at *
      go_wp2_with fail
      (with_reducible refine (letter_any x _ xb.1 (by omega)).mono ?_)
      rintro e w3 ⟨rfl, hb3⟩
      have hbn := hbr.trans (hb3.mono zr)
      clear hb3 hbr cx
      have hsz : (T k).size + (strOfNums [97 + x]).size ≤ 9223372036854775807 := by have := HZ.out k; have e : (strOfNums [97 + x]).size = 1 := strOfNums_size _; omega
      go_wp2
      go_roundw
      case rel => exact ⟨k + 1, by omega, by go_num, by rw [HS2.out], hbn⟩
      case measure => simp [intOf]; omega
    · obtain rfl : k = xs.length := by omega
      rw [HE.out]
      go_wp2
      go_ret
      exact ⟨rfl, hbr⟩
theorem infoY : (Tryd.prog.info? 5).map (fun i => (i.zero, i.size, i.bytes)) = some (some (.int .u8 0), 1, 1) := by kernel_rfl
section
variable {ops : Array Oper} {rest : List Oper} {o : Oper} {a : Act} {Q : Exit → Act → World → Prop}
/-- 'make([]byte, n)' -/
theorem wpList_make_bytes (w : World) (hg : o.guard = none) (l c : Operand) (hop : o.op = Op.makeSlice 58 l c) (n : Nat)
    (hl : a.eval l = .int .i64 (n : Int)) (hc : a.eval c = .int .i64 (n : Int)) (hn : n ≤ 1099511627776)
    (hK : ∀ w', w'.ownsRow w.heap.size 5 1 (.slice (some ⟨w.heap.size, 0, none⟩) n n) n (List.replicate n (.int .u8 0)) → Below w.heap.size w w' → w'.heap.size = w.heap.size + 1 → wpList Tryd.prog ops Q rest (a.put o.dst (.slice (some ⟨w.heap.size, 0, none⟩) n n)) w') :
    wpList Tryd.prog ops Q (o :: rest) a w := by
  obtain ⟨i0, hi, hz0, hz1, hz2⟩ := info_parts infoY
  refine wpList_plain hg fun K hK' => ?_
  have hrun := run_make (P := Tryd.prog) w 58 5 i0 (.int .u8 0) Tryd.underlying58 hi hz0 .i64 .i64 n n (by omega) (by omega) (by rw [hz2]; omega) (by omega)
  simp only [Int.toNat_natCast, hz1, Nat.mul_one] at hrun
  unfold Oper.wp
  simp [execOp, hop, hl, hc, hrun, Result.andThen]
  refine hK' _ _ (hK _ ?_ ((Below.refl _ _).alloc (Nat.le_refl _) _) (by simp))
  have h1 := World.ownsRow_lit (e := 5) (size := 1) (base := w.heap.size) w (madeCells #[Value.int .u8 0] n) n (Nat.le_refl _) (by unfold maxLen; omega) (by simp [size_madeCells])
  rw [toList_madeCells_one] at h1
  simpa [Value.cells] using h1
end
/-- the bytes after k letters are laid -/
def bytesTo (xs : List Int) (k : Nat) : List Value := (rankNums (xs.take k)).map (Value.int .u8) ++ List.replicate (xs.length - k) (.int .u8 0)
theorem bytesTo_step {xs : List Int} {k : Nat} (h : k < xs.length) : (bytesTo xs k).set k (.int .u8 (97 + ix xs k)) = bytesTo xs (k + 1) := by
  have hl : ((rankNums (xs.take k)).map (Value.int IntKind.u8)).length = k := by simp [rankNums]; omega
  unfold bytesTo
  rw [List.set_append_right _ _ (by omega), hl, Nat.sub_self, show xs.length - k = (xs.length - (k + 1)) + 1 by omega, List.replicate_succ, List.set_cons_zero, rankNums_take h, List.map_append, List.append_assoc]
  rfl
theorem bytesTo_end (xs : List Int) : bytesTo xs xs.length = (rankNums xs).map (Value.int .u8) := by unfold bytesTo; simp
theorem bytesTo_0 (xs : List Int) : bytesTo xs 0 = List.replicate xs.length (.int .u8 0) := by simp [bytesTo, rankNums]
set_option maxHeartbeats 800000 in
theorem implFormatRanking {m : Nat} (A : Option Addr) (n c : Nat) (xs : List Int) (w : World) (h : IntsAt w A n xs) (hc : n ≤ c) (hr : rankOk m xs = true) :
    Calls Tryd.prog 44 #[.slice A n c] w fun e w' => e = .returned (.string (strOfNums (rankNums xs))) ∧ Below w.heap.size w w' := by
  obtain rfl := h.len
  have hl := rankText_len hr
  have F := Lib.hid (rankOk_facts hr)
  have h5 : xs.length ≤ 5 := by have := F.out.2.1; omega
  have hr' : rankOk (xs.length : Int) xs = true := by rw [hl]; exact hr
  have HR := Lib.hid hr'
  clear hr hr' hl
  go_enter Tryd.func44, Tryd.ntmps44
  go_wp2_with fail
  (with_reducible refine (isRanking_any _ _ _ _ _ h (by omega) hc).mono ?_)
  rintro e w1 ⟨rfl, rfl⟩
  rw [HR.out]
  go_wp2_with ((with_reducible refine wpList_make_bytes _ rfl _ _ rfl xs.length rfl rfl (by omega) ?_))
  intro w2 ho hb hs2
  rw [← bytesTo_0] at ho
  have z2 := hb.size
  have hs3 : w.heap.size < w2.heap.size := by omega
  clear hs2
  go_wp2
  go_loopw [4, 5, 14] (fun _ _ i_ wr => ∃ k : Nat, k ≤ xs.length ∧ i_ = .int .i64 k ∧ wr.ownsRow w.heap.size 5 1 (.slice (some ⟨w.heap.size, 0, none⟩) xs.length xs.length) xs.length (bytesTo xs k) ∧ Below w.heap.size w wr) (fun _ _ i_ _ => xs.length - (intOf i_).toNat)
  case atStart => exact ⟨0, Nat.zero_le _, rfl, ho, hb⟩
  case round =>
    obtain ⟨k, hk, rfl, hown, hbr⟩ := hrel
    have zr := hbr.size
    by_cases hlt : k < xs.length
    · obtain ⟨b, o, rfl, _, hcx⟩ := (h.below hbr).at_ hlt
      have cx := hcx k hlt
      have xb := F.out.2.2.2 k hlt
      have f2 := F.out.2.1
      clear hcx
      have cp := World.ownsRow.cellAt hown k (by omega)
      have fp := World.ownsRow.frozenAt hown k
      have hst := World.ownsRow.stored hown k (.int .u8 (97 + ix xs k))
      rw [bytesTo_step hlt] at hst
      have HO := Lib.hid hst.1
      have HB := Lib.hid (hbr.grown hst.2 zr (fun j e => by cases e; exact Nat.le_refl _))
      clear hst hown hbr
      have hw : IntKind.u8.wrap (97 + ix xs k) = 97 + ix xs k := by rw [IntKind.wrap_u8]; omega
      obtain ⟨vv, hvv⟩ : ∃ vv, (bytesTo xs k)[k]? = some vv := ⟨_, List.getElem?_eq_getElem (by unfold bytesTo; simp [rankNums]; omega)⟩
      rw [hvv] at cp
      clear hvv
      generalize ix xs k = x at *
      go_wp2
      go_roundw
      case rel => exact ⟨k + 1, by omega, by go_num, HO.out, HB.out⟩
      case measure => simp [intOf]; omega
    · obtain rfl : k = xs.length := by omega
      rw [bytesTo_end] at hown
      have hcv := run_convert_bytes_arg (P := Tryd.prog) wr 58 5 Tryd.underlying58 Tryd.underlying5 w.heap.size 0 xs.length xs.length (rankNums xs) (by simp [rankNums]) (fun i hi => by
        have := World.ownsRow.cellAt hown i (by omega)
        rw [Nat.zero_add, this]
        have hi2 : i < (rankNums xs).length := by simp [rankNums]; exact hi
        simp [List.getD, hi2]) 9 Tryd.underlying9
      go_wp2
      go_ret
      exact ⟨rfl, hbr⟩
end Go.Proofs.YtnoanomihifobaaDoor
