/- A text is cut at its blanks. -/
import Derived.Test.YtnoanomihifobaaDoorParseR
namespace Go.Proofs.YtnoanomihifobaaDoor
set_option linter.unusedVariables false
open Go.RowKit

/-- the words laid so far and what is left -/
structure CutAt (a : ByteArray) (i f : Nat) (out : List ByteArray) : Prop where
  fi : f ≤ i
  ia : i ≤ a.size
  cut : out.map (·.data.toList) ++ spA ((a.data.toList.take i).drop f) (a.data.toList.drop i) = wds a
  len : out.length ≤ i
theorem CutAt.start (a : ByteArray) : CutAt a 0 0 [] := ⟨Nat.le_refl _, Nat.zero_le _, by simp [wds], Nat.zero_le _⟩
theorem CutAt.go {a : ByteArray} {i f : Nat} {out : List ByteArray} (h : CutAt a i f out) (hi : i < a.size) (hx : a[i] ≠ 32) : CutAt a (i + 1) f out := by
  have hl : i < a.data.toList.length := by rw [← size_list]; exact hi
  refine ⟨by have := h.fi; omega, by omega, ?_, by have := h.len; omega⟩
  rw [← h.cut]
  have e := List.drop_eq_getElem_cons hl
  conv => rhs; rw [e, spA, if_neg (by rw [byte_at a i hi hl]; exact hx)]
  congr 2
  rw [List.take_succ_eq_append_getElem hl, List.drop_append_of_le_length (by rw [List.length_take]; have := h.fi; omega)]
theorem CutAt.word {a : ByteArray} {i f : Nat} {out : List ByteArray} (h : CutAt a i f out) (hi : i < a.size) (hx : a[i] = 32) : CutAt a (i + 1) (i + 1) (out ++ [a.extract f i]) := by
  have hl : i < a.data.toList.length := by rw [← size_list]; exact hi
  refine ⟨Nat.le_refl _, by omega, ?_, by have := h.len; simp; omega⟩
  rw [← h.cut]
  have e := List.drop_eq_getElem_cons hl
  conv => rhs; rw [e, spA, if_pos (by rw [byte_at a i hi hl]; exact hx)]
  rw [List.map_append, List.append_assoc]
  congr 1
  show [(a.extract f i).data.toList] ++ spA _ _ = _
  have e2 : (a.data.toList.take (i + 1)).drop (i + 1) = [] := List.drop_eq_nil_of_le (by rw [List.length_take]; omega)
  rw [Lib.extract_data, List.singleton_append, e2, List.take_drop, Nat.add_comm f, Nat.sub_add_cancel h.fi]
theorem CutAt.fin {a : ByteArray} {f : Nat} {out : List ByteArray} (h : CutAt a a.size f out) : (out ++ [a.extract f a.size]).map (·.data.toList) = wds a := by
  rw [← h.cut, List.map_append]
  congr 1
  show [(a.extract f a.size).data.toList] = _
  rw [Lib.extract_to_end, size_list, List.take_length, List.drop_length]
  rfl
set_option maxHeartbeats 1000000 in
theorem specSplitAny (a : ByteArray) (w : World) (ha : a.size ≤ 1048576) :
    Calls Tryd.prog 9 #[.string a, .string ⟨#[32]⟩] w fun e w' => ∃ A c ts, e = .returned (.slice A ts.length c) ∧ ts.map (·.data.toList) = wds a ∧ OwnS w' w.heap.size (.slice A ts.length c) ts ∧ ts.length ≤ 1048577 ∧ Below w.heap.size w w' := by
  have b0 := (Below.refl w.heap.size w).alloc (Nat.le_refl _) (.cells #[] 9)
  go_enter Tryd.func9, Tryd.ntmps9
  go_wp2
  go_loopw [5, 6, 7] (fun v f_ i_ wr => ∃ (i f : Nat) (out : List ByteArray) (A' : Option Addr) (c' : Nat), CutAt a i f out ∧ i_ = .int .i64 i ∧ f_ = .int .i64 f ∧ v = .slice A' out.length c' ∧ OwnS wr w.heap.size v out ∧ Below w.heap.size w wr) (fun _ _ i_ _ => a.size - (intOf i_).toNat)
  case atStart => exact ⟨0, 0, [], _, 0, CutAt.start a, rfl, rfl, rfl, OwnS.empty _ (Nat.le_refl _), b0⟩
  case round =>
    obtain ⟨i, f, out, A', c', C, rfl, rfl, rfl, ho, hb⟩ := hrel
    have fi := C.fi
    have ia := C.ia
    have ol := C.len
    have HC := Lib.hid C
    clear C
    by_cases hlt : i < a.size
    · have hil : (i : Int) < (a.size : Int) := by omega
      have e1 : (⟨#[32]⟩ : ByteArray).size = 1 := rfl
      obtain ⟨wo, rfl⟩ : ∃ wo, wo = wr := ⟨_, rfl⟩
      go_wp2
      go_loopw [5, 6, 8] (fun v f_ k_ wr => ∃ k : Nat, k ≤ 1 ∧ k_ = .int .i64 k ∧ v = .slice A' out.length c' ∧ f_ = .int .i64 f ∧ (k = 1 → a[i] ≠ 32) ∧ Below wo.heap.size wo wr) (fun _ _ k_ _ => 1 - (intOf k_).toNat)
      case atStart => exact ⟨0, Nat.zero_le _, rfl, rfl, rfl, fun h => by omega, Below.refl _ _⟩
      case round =>
        obtain ⟨k, hk, rfl, rfl, rfl, hne, hb2⟩ := hrel
        by_cases hk1 : k = 1
        · subst hk1
          have C2 := Lib.hid (HC.out.go hlt (hne rfl))
          have ho2 := ho.belowW hb2
          have hb3 := hb.trans (hb2.mono hb.size)
          clear hne ho hb hb2
          go_wp2
          go_roundw
          case rel => exact ⟨i + 1, f, out, A', c', C2.out, by go_num, rfl, rfl, ho2, hb3⟩
          case measure => simp [intOf]; omega
        · obtain rfl : k = 0 := by omega
          by_cases hx : a[i] = 32
          · have hxi : ((a[i].toNat : Int) == (((⟨#[32]⟩ : ByteArray)[0]'(by decide)).toNat : Int)) = true := by rw [hx]; rfl
            have C2 := Lib.hid (HC.out.word hlt hx)
            have ho2 := ho.belowW hb2
            have hb3 := hb.trans (hb2.mono hb.size)
            have hfi : (f : Int) ≤ (i : Int) := by omega
            have hil2 : (i : Int) ≤ (a.size : Int) := by omega
            have hz3 := hb3.size
            clear hne ho hb hb2 hx
            go_wp2
            go_quiet (fail)
            have ho3 : OwnS (wr.drewN nq) w.heap.size (.slice A' out.length c') out := ho2
            have hb4 : Below w.heap.size w (wr.drewN nq) := hb3.trans (below_of_drewN rfl)
            have hz4 : w.heap.size ≤ (wr.drewN nq).heap.size := hb4.size
            clear ho2 hb3 hz3
            generalize wr.drewN nq = w3 at *
            have ho4 := ho3.belowW ((Below.refl _ _).alloc (Nat.le_refl _) (.cells #[.string (a.extract f i)] 9))
            go_wp2_with (at_builtin; refine wpList_append_str _ rfl _ _ rfl w.heap.size out.length c' A' out rfl ho4 _ _ 1 rfl (new_cell _ _ _ rfl) (by omega) (by simp; omega) ?_)
            intro A5 c5 w5 ho5 hg5
            have hb5 : Below w.heap.size w w5 := (hb4.alloc hz4 _).trans ((Below.refl w.heap.size _).grown hg5 (by simp; omega) (fun k e => (World.ownsRow.lt ho4 k e).1))
            have hll : out.length + 1 = (out ++ [a.extract f i]).length := by simp
            have HLL := Lib.hid hll
            clear hll ho4 ho3 hb4 hg5
            go_wp2
            go_roundw
            case rel => exact ⟨i + 1, i + 1, out ++ [a.extract f i], A5, c5, C2.out, by go_num, by go_num, by rw [HLL.out], ho5, hb5⟩
            case measure => simp [intOf]; omega
          · have hxi : ((a[i].toNat : Int) == (((⟨#[32]⟩ : ByteArray)[0]'(by decide)).toNat : Int)) = false := by
              rw [beq_eq_false_iff_ne]
              intro e
              have e3 : ((⟨#[32]⟩ : ByteArray)[0]'(by decide)).toNat = 32 := rfl
              have e2 : a[i].toNat = 32 := by omega
              exact hx (UInt8.toNat_inj.1 e2)
            clear hne
            go_wp2
            go_quiet (fail)
            have hb3 : Below wo.heap.size wo (wr.drewN nq) := hb2.trans (below_of_drewN rfl)
            go_wp2
            go_roundw
            case rel => exact ⟨1, Nat.le_refl _, by go_num, rfl, rfl, fun _ => hx, hb3⟩
            case measure => simp [intOf]
    · obtain rfl : i = a.size := by omega
      have CF := Lib.hid HC.out.fin
      have hz4 := hb.size
      have ho4 := ho.belowW ((Below.refl _ _).alloc (Nat.le_refl _) (.cells #[.string (a.extract f a.size)] 9))
      have hfi : (f : Int) ≤ (a.size : Int) := by omega
      go_wp2_with (at_builtin; refine wpList_append_str _ rfl _ _ rfl w.heap.size out.length c' A' out rfl ho4 _ _ 1 rfl (new_cell _ _ _ rfl) (by omega) (by simp; omega) ?_)
      intro A5 c5 w5 ho5 hg5
      have hb5 : Below w.heap.size w w5 := (hb.alloc hz4 _).trans ((Below.refl w.heap.size _).grown hg5 (by simp; omega) (fun k e => (World.ownsRow.lt ho4 k e).1))
      have HLL := Lib.hid (show out.length + 1 = (out ++ [a.extract f a.size]).length by simp)
      clear ho ho4 hg5 hb
      go_wp2
      go_ret
      exact ⟨A5, c5, out ++ [a.extract f a.size], by rw [← HLL.out]; rfl, CF.out, by rw [← HLL.out]; exact ho5, by rw [← HLL.out]; omega, hb5⟩
end Go.Proofs.YtnoanomihifobaaDoor
