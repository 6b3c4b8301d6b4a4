/- slices.Repeat of a list of one number. -/
import Derived.Test.YtoajmckhfnaifaaSmall
import Derived.Laws.CopyOwn
import Derived.Deep.RegionLaw
namespace Go.Proofs.Ytoajmckhfnaifaa
set_option linter.unusedVariables false
open Go.RowKit

set_option maxHeartbeats 2000000 in
theorem mul1_any (n : Nat) (w : World) (h1 : 1 ≤ n) (h6 : n ≤ 6) :
    Calls Try.prog 47 #[.int .u64 1, .int .u64 (n : Int)] w fun e w' => e = .returned (.tuple #[.int .u64 0, .int .u64 (n : Int)]) ∧ w = w' := by
  obtain rfl | rfl | rfl | rfl | rfl | rfl : n = 1 ∨ n = 2 ∨ n = 3 ∨ n = 4 ∨ n = 5 ∨ n = 6 := by omega
  all_goals
    go_enter Try.func47, Try.ntmps47
    go_wp2
    go_ret2
    exact ⟨rfl, rfl⟩
theorem OwnI.row {w : World} {lo hi g n : Nat} {xs : List Int} (h : OwnI w lo hi (.slice (some ⟨g, 0, none⟩) n n) xs) : w.heap[g]? = some (.cells (xs.map (Value.int .i64)).toArray 3 (0, 0)) := by
  obtain ⟨rfl, _⟩ := h.num
  rcases h.1.2 with ⟨h0, _⟩ | ⟨g', cap, cur, hv, hgb, hg, hc, hm, hs, ht⟩
  · cases h0
  · cases hv
    rw [hg]
    have e : cur.toList = xs.map (Value.int .i64) := by
      rw [← ht, List.take_of_length_le (by simp [hs])]
    rw [← e]
theorem OwnI.of_row {w : World} {lo hi g n : Nat} {xs : List Int} (h : w.heap[g]? = some (.cells (xs.map (Value.int .i64)).toArray 3 (0, 0))) (hl : lo ≤ g) (hh : g < hi) (hn : xs.length = n) (hm : n ≤ 1099511627776) : OwnI w lo hi (.slice (some ⟨g, 0, none⟩) n n) xs := by
  subst hn
  refine ⟨⟨by simp, .inr ⟨g, xs.length, _, rfl, hl, h, Nat.le_refl _, by unfold maxLen; omega, by simp, ?_⟩⟩, fun k e => by simp [Value.ownBlock] at e; omega⟩
  rw [Nat.mul_one, List.take_of_length_le (by simp)]
/-- k numbers v, then zeros up to n -/
def repTo (v : Int) (n k : Nat) : List Int := List.replicate k v ++ List.replicate (n - k) 0
theorem repTo_len {v : Int} {n k : Nat} (h : k ≤ n) : (repTo v n k).length = n := by simp [repTo]; omega
theorem repTo_splice {v : Int} {n k m : Nat} (h : k + m ≤ n) : splice ((repTo v n k).map (Value.int .i64)) k ((List.replicate m v).map (Value.int .i64)) = (repTo v n (k + m)).map (Value.int .i64) := by
  unfold splice repTo
  simp only [List.map_append, List.map_replicate, List.length_replicate]
  rw [List.take_left' (by simp), List.drop_append, List.drop_eq_nil_of_le (by simp), List.nil_append, List.drop_replicate]
  simp only [List.length_replicate]
  rw [← List.append_assoc, List.replicate_append_replicate]
  congr 2
  omega
theorem cell_carry0 {w w' : World} {p : Addr} {u : Value} (b : Below w.heap.size w w') (k : w.cell? p = some u) : w'.cell? p = some u := (b.cell (World.block_lt_of_cell? w _ k)).trans k
theorem src1 {w : World} {b o : Nat} {v : Int} (h : w.cell? ⟨b, o, none⟩ = some (.int .i64 v)) {j : Nat} {u : Value} (hj : ((List.replicate 1 v).map (Value.int .i64))[j]? = some u) : w.cell? (Addr.add ⟨b, o, none⟩ j) = some u := by
  match j, hj with
  | 0, hj => simp at hj; subst hj; simpa [Addr.add] using h
theorem infoSz : (Try.prog.info? 3).map (·.size) = some 1 := by kernel_rfl
set_option maxHeartbeats 600000 in
theorem repeat1_any (b o c : Nat) (v : Int) (n : Nat) (w : World) (hv : w.cell? ⟨b, o, none⟩ = some (.int .i64 v)) (h1 : 1 ≤ n) (h6 : n ≤ 6) :
    Calls Try.prog 41 #[.slice (some ⟨b, o, none⟩) 1 c, .int .i64 (n : Int)] w fun e w' => e = .returned (.slice (some ⟨w.heap.size, 0, none⟩) n n) ∧ OwnI w' w.heap.size (w.heap.size + 1) (.slice (some ⟨w.heap.size, 0, none⟩) n n) (List.replicate n v) ∧ Below w.heap.size w w' := by
  have n0 : ¬ ((n : Int) < 0) := by omega
  have r0 : List.replicate n (0 : Int) = repTo v n 0 := by simp [repTo]
  have R0 := Lib.hid r0
  clear r0
  have hn1 : ((List.replicate 1 v).map (Value.int .i64)).length = Nat.min 1 n := by
    have : Nat.min 1 n = 1 := Nat.min_eq_left h1
    rw [this]; simp
  have HN1 := Lib.hid hn1
  have hf1 : 0 + ((List.replicate 1 v).map (Value.int .i64)).length ≤ ((repTo v n 0).map (Value.int .i64)).length := by rw [Nat.zero_add, List.length_map, List.length_map, repTo_len (Nat.zero_le _)]; simp; omega
  have HF1 := Lib.hid hf1
  clear hn1 hf1
  go_enter Try.func41, Try.ntmps41
  go_wp2_with (first
    | (go_at_call 47; (with_reducible refine (mul1_any _ _ h1 h6).mono ?_); rintro e w' ⟨rfl, rfl⟩)
    | ((with_reducible refine wpList_make_ints _ rfl _ _ rfl n rfl rfl (by omega) ?_); intro w2 ho hb1 hs1; rw [R0.out] at ho; have row0 := ho.row; have hv2 := cell_carry0 hb1 hv; clear ho)
    | (refine wpList_copy_splice rfl (.tmp 31) (.tmp 32) 23 23 rfl 3 Try.underlying23 infoSz (some ⟨w.heap.size, 0, none⟩) (some ⟨b, o, none⟩) n n 1 c rfl rfl w.heap.size 0 ((repTo v n 0).map (Value.int .i64)) 3 row0 ((List.replicate 1 v).map (Value.int .i64)) HN1.out (fun _ => ⟨rfl, _, rfl, fun j u hj => src1 hv2 hj⟩) HF1.out (ints_oneCell _ _) w.heap.size w hb1 (Nat.le_refl _) ?_))
  intro w3 hg3 hb3
  have HR : Hid (w3.heap[w.heap.size]? = some (.cells ((repTo v n 1).map (Value.int .i64)).toArray 3 (0, 0))) := by
    have e := repTo_splice (v := v) (n := n) (k := 0) (m := 1) (by omega)
    have h := hg3.out
    show _ = _
    rw [h]
    exact congrArg (fun l => some (Obj.cells (List.toArray l) 3 (0, 0))) e
  clear hg3 row0 hv2
  go_wp2
  go_loopw [8] (fun k_ wr => ∃ k : Nat, 1 ≤ k ∧ k ≤ n ∧ k_ = .int .i64 k ∧ Hid (wr.heap[w.heap.size]? = some (.cells ((repTo v n k).map (Value.int .i64)).toArray 3 (0, 0))) ∧ Below w.heap.size w wr) (fun k_ _ => n - (intOf k_).toNat)
  case atStart => exact ⟨1, Nat.le_refl _, h1, rfl, HR, hb3⟩
  case round =>
    obtain ⟨k, hk1, hk, rfl, hr, hb⟩ := hrel
    by_cases hlt : k < n
    · obtain ⟨m, hm⟩ : ∃ m, m = Nat.min k (n - k) := ⟨_, rfl⟩
      have hm1 : 1 ≤ m := by rw [hm]; exact Nat.le_min.2 ⟨hk1, by omega⟩
      have hm2 : m ≤ k := by rw [hm]; exact Nat.min_le_left _ _
      have hm3 : m ≤ n - k := by rw [hm]; exact Nat.min_le_right _ _
      have HM : Hid (((List.replicate m v).map (Value.int .i64)).length = Nat.min k (n - k)) := by show _ = _; rw [← hm]; simp
      have HF : Hid (k + ((List.replicate m v).map (Value.int .i64)).length ≤ ((repTo v n k).map (Value.int .i64)).length) := by
        show _ ≤ _
        rw [List.length_map, List.length_map, repTo_len hk, List.length_replicate]
        omega
      clear hm
      have hown : OwnI wr w.heap.size (w.heap.size + 1) (.slice (some ⟨w.heap.size, 0, none⟩) n n) (repTo v n k) := OwnI.of_row hr.out (Nat.le_refl _) (by omega) (repTo_len hk) (by omega)
      have HS : Hid (∀ (W : World) j u, W.heap = wr.heap → ((List.replicate m v).map (Value.int .i64))[j]? = some u → W.cell? (Addr.add ⟨w.heap.size, 0, none⟩ j) = some u) := by
        intro W j u hW hj
        have hjm : j < m := by have := (List.getElem?_eq_some_iff.1 hj).1; simpa using this
        have h2 := hown.cellAt j (by omega)
        rw [Addr.add_lit, Nat.zero_add]
        have h3 : W.cell? ⟨w.heap.size, j, none⟩ = wr.cell? ⟨w.heap.size, j, none⟩ := World.cell?_of_block (by rw [hW])
        rw [h3, h2, ix_lt (by rw [repTo_len hk]; omega)]
        simp only [repTo]
        rw [List.getElem_append_left (by simp; omega)]
        simp [hjm] at hj ⊢
        exact hj
      have e1 : IntKind.i64.wrap ((k : Int) + (m : Int)) = (k : Int) + (m : Int) := by rw [IntKind.wrap_i64]; omega
      have E1 := Lib.hid e1
      clear hown e1
      have hne : ¬ (n = k) := by omega
      go_wp2
      go_region_law (refine step_copy_splice (by rfl) (.tmp 41) (.tmp 44) 23 23 (by rfl) 3 Try.underlying23 infoSz (some ⟨w.heap.size, k, none⟩) (some ⟨w.heap.size, 0, none⟩) (n - k) (n - k) k n (by simp [Act.eval, Act.put, hne]) (by simp [Act.eval, Act.put]) w.heap.size k ((repTo v n k).map (Value.int .i64)) 3 hr.out ((List.replicate m v).map (Value.int .i64)) HM.out (fun _ => ⟨rfl, _, rfl, fun j u hj => HS.out _ j u rfl hj⟩) HF.out (ints_oneCell _ _) w.heap.size w hb.drew (Nat.le_refl _) ?_; intro w4 hg4 hb4)
      all_goals
        have HR2 : Hid (w4.heap[w.heap.size]? = some (.cells ((repTo v n (k + m)).map (Value.int .i64)).toArray 3 (0, 0))) := by
          have e := repTo_splice (v := v) (n := n) (k := k) (m := m) (by omega)
          have h := hg4.out
          show _ = _
          rw [← e]
          exact h
        go_frame
        simp only [E1.out]
        go_roundw
        case rel => first | exact ⟨k + m, by omega, by omega, by go_num, HR2, hb4⟩ | ((repeat apply Exists.intro); exact ⟨⟨k + m, by omega, by omega, by go_num, HR2, hb4⟩, rfl⟩)
        case measure => simp [intOf]; omega
    · obtain rfl : k = n := by omega
      have ho : OwnI wr w.heap.size (w.heap.size + 1) (.slice (some ⟨w.heap.size, 0, none⟩) k k) (repTo v k k) := OwnI.of_row hr.out (Nat.le_refl _) (by omega) (repTo_len (Nat.le_refl _)) (by omega)
      have e : repTo v k k = List.replicate k v := by simp [repTo]
      rw [e] at ho
      clear e
      go_wp2
      go_ret
      exact ⟨rfl, ho, hb⟩
end Go.Proofs.Ytoajmckhfnaifaa
