/- Claims of two parties, compared. slices.Repeat of a list of one number. Scores by pairs, the program's side: CopelandScores, MaximinScores. -/
import Derived.Test.YtaanppihgldeaaaGreatDoorW02
import Derived.Test.YtaanppihgldeaaaGreatDoorW03
import Derived.Laws.CopyOwn
import Derived.Deep.RegionLaw
import Derived.Test.YtaanppihgldeaaaGreatDoorW06
namespace Go.Proofs.YtaanppihgldeaaaGreatDoor
set_option linter.unusedSimpArgs false
set_option linter.unusedVariables false
set_option linter.unusedVariables false
open Go.RowKit

theorem mul_bd {u v U V : Int} (u0 : 0 ≤ u) (u1 : u ≤ U) (v0 : 0 ≤ v) (v1 : v ≤ V) : 0 ≤ u * v ∧ u * v ≤ U * V :=
  ⟨Int.mul_nonneg u0 v0, Int.mul_le_mul u1 v1 v0 (Int.le_trans u0 u1)⟩
def cmpI (a b : Int) : Int := if a < b then -1 else if b < a then 1 else 0
def topC (m x a : Int) : Int := if m = 1 then x else if m = 2 then x * (2 * a + 1) else if m = 3 then x * x else if m = 4 then 2 * x else x
def botC (m a : Int) : Int := if m = 1 then a else if m = 2 then 2 * a * (a + 1) else if m = 3 then a * (a + 1) else if m = 4 then 2 * a + 1 else a + 1
def claimC (m x a y b : Int) : Int :=
  if x = 0 ∨ y = 0 then cmpI x y else if botC m a = 0 ∧ botC m b = 0 then cmpI x y else if botC m a = 0 then 1 else if botC m b = 0 then -1 else cmpI (topC m x a * botC m b) (topC m y b * botC m a)
theorem post_bd {x a : Int} (x0 : 0 ≤ x) (x1 : x ≤ 1000000) (a0 : 0 ≤ a) (a1 : a ≤ 200) :
    (0 ≤ a * (a + 1) ∧ a * (a + 1) ≤ 40200) ∧ (0 ≤ 2 * a * (a + 1) ∧ 2 * a * (a + 1) ≤ 80400) ∧ (0 ≤ x * (2 * a + 1) ∧ x * (2 * a + 1) ≤ 401000000) ∧ (0 ≤ x * x ∧ x * x ≤ 1000000000000) := by
  have h1 := mul_bd a0 a1 (show 0 ≤ a + 1 by omega) (show a + 1 ≤ 201 by omega)
  have h2 := mul_bd (show 0 ≤ 2 * a by omega) (show 2 * a ≤ 400 by omega) (show 0 ≤ a + 1 by omega) (show a + 1 ≤ 201 by omega)
  have h3 := mul_bd x0 x1 (show 0 ≤ 2 * a + 1 by omega) (show 2 * a + 1 ≤ 401 by omega)
  have h4 := mul_bd x0 x1 x0 x1
  exact ⟨by omega, by omega, by omega, by omega⟩
theorem botC_bd {m a : Int} (a0 : 0 ≤ a) (a1 : a ≤ 200) : 0 ≤ botC m a ∧ botC m a ≤ 80400 := by
  obtain ⟨h1, h2, _⟩ := post_bd (x := 0) (by omega) (by omega) a0 a1
  unfold botC
  by_cases e1 : m = 1 <;> by_cases e2 : m = 2 <;> by_cases e3 : m = 3 <;> by_cases e4 : m = 4 <;> simp only [e1, e2, e3, e4, if_true, if_false] <;> omega
theorem topC_bd {m x a : Int} (x0 : 0 ≤ x) (x1 : x ≤ 1000000) (a0 : 0 ≤ a) (a1 : a ≤ 200) : 0 ≤ topC m x a ∧ topC m x a ≤ 1000000000000 := by
  obtain ⟨_, _, h3, h4⟩ := post_bd x0 x1 a0 a1
  unfold topC
  by_cases e1 : m = 1 <;> by_cases e2 : m = 2 <;> by_cases e3 : m = 3 <;> by_cases e4 : m = 4 <;> simp only [e1, e2, e3, e4, if_true, if_false] <;> omega

theorem isNaN_any (x : Int) (w : World) : Calls Tryz.prog 162 #[.int .i64 x] w fun e w' => e = .returned (.bool false) ∧ w = w' := by
  go_enter Tryz.func162, Tryz.ntmps162
  go_wp2
  go_ret
  exact ⟨by simp, rfl⟩
theorem compare_any (a b : Int) (w : World) : Calls Tryz.prog 103 #[.int .i64 a, .int .i64 b] w fun e w' => e = .returned (.int .i64 (cmpI a b)) ∧ w = w' := by
  unfold cmpI
  by_cases h1 : a < b
  · rw [if_pos h1]
    go_enter Tryz.func103, Tryz.ntmps103
    go_wp2_with (go_at_call 162; refine (isNaN_any _ _).mono ?_; rintro e w' ⟨rfl, rfl⟩)
    go_ret
    exact ⟨rfl, rfl⟩
  rw [if_neg h1]
  by_cases h2 : b < a
  · rw [if_pos h2]
    go_enter Tryz.func103, Tryz.ntmps103
    go_wp2_with (go_at_call 162; refine (isNaN_any _ _).mono ?_; rintro e w' ⟨rfl, rfl⟩)
    go_ret
    exact ⟨rfl, rfl⟩
  · rw [if_neg h2]
    go_enter Tryz.func103, Tryz.ntmps103
    go_wp2_with (go_at_call 162; refine (isNaN_any _ _).mono ?_; rintro e w' ⟨rfl, rfl⟩)
    go_ret
    exact ⟨rfl, rfl⟩
/-- the other factor of a signpost -/
def qC (m a : Int) : Int := if m = 1 then 1 else if m = 2 then 2 * a + 1 else if m = 3 then 1 else if m = 4 then 2 else 1
theorem qC_bd {m a : Int} (a0 : 0 ≤ a) (a1 : a ≤ 200) : 0 ≤ qC m a ∧ qC m a ≤ 401 := by
  unfold qC
  by_cases e1 : m = 1 <;> by_cases e2 : m = 2 <;> by_cases e3 : m = 3 <;> by_cases e4 : m = 4 <;> simp only [e1, e2, e3, e4, if_true, if_false] <;> omega
theorem topC_pos {m x a : Int} (x0 : 0 < x) (a0 : 0 ≤ a) : 0 < topC m x a := by
  have h1 := Int.mul_pos x0 (show 0 < 2 * a + 1 by omega)
  have h2 := Int.mul_pos x0 x0
  unfold topC
  by_cases e1 : m = 1 <;> by_cases e2 : m = 2 <;> by_cases e3 : m = 3 <;> by_cases e4 : m = 4 <;> simp only [e1, e2, e3, e4, if_true, if_false] <;> omega
theorem topC_zero {m a : Int} : topC m 0 a = 0 := by unfold topC; simp
theorem topC_q {m x a : Int} (h : m ≠ 3) : topC m x a = x * qC m a := by
  unfold topC qC
  by_cases e1 : m = 1
  · simp [e1]
  by_cases e2 : m = 2
  · simp [e2]
  by_cases e4 : m = 4
  · simp [e4]; omega
  · simp [e1, e2, e4, h]
theorem cmpI_pos {a b : Int} (h : b < a) : cmpI a b = 1 := by unfold cmpI; rw [if_neg (by omega), if_pos h]
theorem cmpI_neg {a b : Int} (h : a < b) : cmpI a b = -1 := by unfold cmpI; rw [if_pos h]
theorem cmpI_same (a : Int) : cmpI a a = 0 := by unfold cmpI; rw [if_neg (by omega), if_neg (by omega)]
/-- the comparison as the reference states it -/
def specC (hill : Bool) (x y P Q R S : Int) : Int :=
  if P = 0 then (if R = 0 then cmpI x y else if x = 0 then cmpI x y else cmpI x 0)
  else if R = 0 then (if y = 0 then cmpI x y else cmpI 0 y) else if hill then cmpI (x * x * R) (y * y * P) else cmpI (x * Q * R) (y * S * P)
theorem specC_eq {m x a y b : Int} (x0 : 0 ≤ x) (a0 : 0 ≤ a) (a1 : a ≤ 200) (y0 : 0 ≤ y) (b0 : 0 ≤ b) (b1 : b ≤ 200) : specC (m == 3) x y (botC m a) (qC m a) (botC m b) (qC m b) = claimC m x a y b := by
  have p0 := (botC_bd (m := m) a0 a1).1
  have r0 := (botC_bd (m := m) b0 b1).1
  have e : (if (m == 3) = true then cmpI (x * x * botC m b) (y * y * botC m a) else cmpI (x * qC m a * botC m b) (y * qC m b * botC m a)) = cmpI (topC m x a * botC m b) (topC m y b * botC m a) := by
    by_cases h : m = 3
    · subst h; rfl
    · rw [if_neg (by simpa using h), topC_q h, topC_q h]
  unfold specC claimC
  rw [e]
  clear e
  have hx := topC_pos (m := m) (x := x) (a := a)
  have hy := topC_pos (m := m) (x := y) (a := b)
  by_cases ex : x = 0
  · subst ex
    by_cases ey : y = 0
    · subst ey
      simp [topC_zero, cmpI_same]
    · have hy' := hy (by omega) b0
      by_cases eP : botC m a = 0
      · simp [eP]
      · by_cases eR : botC m b = 0
        · simp [eP, eR, ey]
        · have := Int.mul_pos hy' (show 0 < botC m a by omega)
          simp only [eP, eR, if_false, if_true, true_or, topC_zero, Int.zero_mul]
          rw [cmpI_neg this, cmpI_neg (by omega)]
  · by_cases ey : y = 0
    · subst ey
      have hx' := hx (by omega) a0
      by_cases eP : botC m a = 0
      · simp [eP, ex]
      · by_cases eR : botC m b = 0
        · simp [eP, eR]
        · have := Int.mul_pos hx' (show 0 < botC m b by omega)
          simp only [eP, eR, if_false, if_true, or_true, topC_zero, Int.zero_mul]
          rw [cmpI_pos this, cmpI_pos (by omega)]
    · by_cases eP : botC m a = 0
      · by_cases eR : botC m b = 0
        · simp [eP, eR]
        · simp only [eP, eR, ex, ey, if_true, if_false, and_false, or_self]
          rw [cmpI_pos (by omega)]
      · by_cases eR : botC m b = 0
        · simp only [eP, eR, ex, ey, if_true, if_false, false_and, or_self]
          rw [cmpI_neg (by omega)]
        · simp [eP, eR, ex, ey]
/-- the comparison of claims with its check -/
def claimsC (m x a y b : Int) : Int := if inB m 1 5 && inB x 0 1000000 && inB y 0 1000000 && inB a 0 100 && inB b 0 100 then claimC m x a y b else -2
end Go.Proofs.YtaanppihgldeaaaGreatDoor
namespace Go.Proofs.YtaanppihgldeaaaGreatDoor
set_option linter.unusedSimpArgs false
set_option linter.unusedVariables false
set_option linter.unusedVariables false
open Go.RowKit

set_option maxHeartbeats 2000000 in
theorem mul1_any (n : Nat) (w : World) (h1 : 1 ≤ n) (h6 : n ≤ 6) :
    Calls Tryz.prog 163 #[.int .u64 1, .int .u64 (n : Int)] w fun e w' => e = .returned (.tuple #[.int .u64 0, .int .u64 (n : Int)]) ∧ w = w' := by
  obtain rfl | rfl | rfl | rfl | rfl | rfl : n = 1 ∨ n = 2 ∨ n = 3 ∨ n = 4 ∨ n = 5 ∨ n = 6 := by omega
  all_goals
    go_enter Tryz.func163, Tryz.ntmps163
    go_wp2
    go_ret2
    exact ⟨rfl, rfl⟩
theorem OwnI.row {w : World} {lo hi g n : Nat} {xs : List Int} (h : OwnI w lo hi (.slice (some ⟨g, 0, none⟩) n n) xs) : w.heap[g]? = some (.cells (xs.map (Value.int .i64)).toArray 3 (0, 0)) := by
  obtain ⟨rfl, _⟩ := h.num
  rcases h.1.2 with ⟨h0, _⟩ | ⟨g', cap, cur, hv, hgb, hg, hc, hm, hs, ht⟩
  · cases h0
  · cases hv
    rw [hg]
    have e : cur.toList = xs.map (Value.int .i64) := by
      rw [← ht, List.take_of_length_le (by simp [hs])]
    rw [← e]
theorem OwnI.of_row {w : World} {lo hi g n : Nat} {xs : List Int} (h : w.heap[g]? = some (.cells (xs.map (Value.int .i64)).toArray 3 (0, 0))) (hl : lo ≤ g) (hh : g < hi) (hn : xs.length = n) (hm : n ≤ 1099511627776) : OwnI w lo hi (.slice (some ⟨g, 0, none⟩) n n) xs := by
  subst hn
  refine ⟨⟨by simp, .inr ⟨g, xs.length, _, rfl, hl, h, Nat.le_refl _, by unfold maxLen; omega, by simp, ?_⟩⟩, fun k e => by simp [Value.ownBlock] at e; omega⟩
  rw [Nat.mul_one, List.take_of_length_le (by simp)]
/-- k numbers v, then zeros up to n -/
def repTo (v : Int) (n k : Nat) : List Int := List.replicate k v ++ List.replicate (n - k) 0
theorem repTo_len {v : Int} {n k : Nat} (h : k ≤ n) : (repTo v n k).length = n := by simp [repTo]; omega
theorem repTo_splice {v : Int} {n k m : Nat} (h : k + m ≤ n) : splice ((repTo v n k).map (Value.int .i64)) k ((List.replicate m v).map (Value.int .i64)) = (repTo v n (k + m)).map (Value.int .i64) := by
  unfold splice repTo
  simp only [List.map_append, List.map_replicate, List.length_replicate]
  rw [List.take_left' (by simp), List.drop_append, List.drop_eq_nil_of_le (by simp), List.nil_append, List.drop_replicate]
  simp only [List.length_replicate]
  rw [← List.append_assoc, List.replicate_append_replicate]
  congr 2
  omega
theorem cell_carry0 {w w' : World} {p : Addr} {u : Value} (b : Below w.heap.size w w') (k : w.cell? p = some u) : w'.cell? p = some u := (b.cell (World.block_lt_of_cell? w _ k)).trans k
theorem src1 {w : World} {b o : Nat} {v : Int} (h : w.cell? ⟨b, o, none⟩ = some (.int .i64 v)) {j : Nat} {u : Value} (hj : ((List.replicate 1 v).map (Value.int .i64))[j]? = some u) : w.cell? (Addr.add ⟨b, o, none⟩ j) = some u := by
  match j, hj with
  | 0, hj => simp at hj; subst hj; simpa [Addr.add] using h
theorem infoSz : (Tryz.prog.info? 3).map (·.size) = some 1 := by kernel_rfl
set_option maxHeartbeats 600000 in
theorem repeat1_any (b o c : Nat) (v : Int) (n : Nat) (w : World) (hv : w.cell? ⟨b, o, none⟩ = some (.int .i64 v)) (h1 : 1 ≤ n) (h6 : n ≤ 6) :
    Calls Tryz.prog 104 #[.slice (some ⟨b, o, none⟩) 1 c, .int .i64 (n : Int)] w fun e w' => e = .returned (.slice (some ⟨w.heap.size, 0, none⟩) n n) ∧ OwnI w' w.heap.size (w.heap.size + 1) (.slice (some ⟨w.heap.size, 0, none⟩) n n) (List.replicate n v) ∧ Below w.heap.size w w' := by
  have n0 : ¬ ((n : Int) < 0) := by omega
  have r0 : List.replicate n (0 : Int) = repTo v n 0 := by simp [repTo]
  have R0 := Lib.hid r0
  clear r0
  have hn1 : ((List.replicate 1 v).map (Value.int .i64)).length = Nat.min 1 n := by
    have : Nat.min 1 n = 1 := Nat.min_eq_left h1
    rw [this]; simp
  have HN1 := Lib.hid hn1
  have hf1 : 0 + ((List.replicate 1 v).map (Value.int .i64)).length ≤ ((repTo v n 0).map (Value.int .i64)).length := by rw [Nat.zero_add, List.length_map, List.length_map, repTo_len (Nat.zero_le _)]; simp; omega
  have HF1 := Lib.hid hf1
  clear hn1 hf1
  go_enter Tryz.func104, Tryz.ntmps104
  go_wp2_with (first
    | (go_at_call 163; (with_reducible refine (mul1_any _ _ h1 h6).mono ?_); rintro e w' ⟨rfl, rfl⟩)
    | ((with_reducible refine wpList_make_ints _ rfl _ _ rfl n rfl rfl (by omega) ?_); intro w2 ho hb1 hs1; rw [R0.out] at ho; have row0 := ho.row; have hv2 := cell_carry0 hb1 hv; clear ho)
    | (refine wpList_copy_splice rfl (.tmp 31) (.tmp 32) 27 27 rfl 3 Tryz.underlying27 infoSz (some ⟨w.heap.size, 0, none⟩) (some ⟨b, o, none⟩) n n 1 c rfl rfl w.heap.size 0 ((repTo v n 0).map (Value.int .i64)) 3 row0 ((List.replicate 1 v).map (Value.int .i64)) HN1.out (fun _ => ⟨rfl, _, rfl, fun j u hj => src1 hv2 hj⟩) HF1.out (ints_oneCell _ _) w.heap.size w hb1 (Nat.le_refl _) ?_))
  intro w3 hg3 hb3
  have HR : Hid (w3.heap[w.heap.size]? = some (.cells ((repTo v n 1).map (Value.int .i64)).toArray 3 (0, 0))) := by
    have e := repTo_splice (v := v) (n := n) (k := 0) (m := 1) (by omega)
    have h := hg3.out
    show _ = _
    rw [h]
    exact congrArg (fun l => some (Obj.cells (List.toArray l) 3 (0, 0))) e
  clear hg3 row0 hv2
  go_wp2
  go_loopw [8] (fun k_ wr => ∃ k : Nat, 1 ≤ k ∧ k ≤ n ∧ k_ = .int .i64 k ∧ Hid (wr.heap[w.heap.size]? = some (.cells ((repTo v n k).map (Value.int .i64)).toArray 3 (0, 0))) ∧ Below w.heap.size w wr) (fun k_ _ => n - (intOf k_).toNat)
  case atStart => exact ⟨1, Nat.le_refl _, h1, rfl, HR, hb3⟩
  case round =>
    obtain ⟨k, hk1, hk, rfl, hr, hb⟩ := hrel
    by_cases hlt : k < n
    · obtain ⟨m, hm⟩ : ∃ m, m = Nat.min k (n - k) := ⟨_, rfl⟩
      have hm1 : 1 ≤ m := by rw [hm]; exact Nat.le_min.2 ⟨hk1, by omega⟩
      have hm2 : m ≤ k := by rw [hm]; exact Nat.min_le_left _ _
      have hm3 : m ≤ n - k := by rw [hm]; exact Nat.min_le_right _ _
      have HM : Hid (((List.replicate m v).map (Value.int .i64)).length = Nat.min k (n - k)) := by show _ = _; rw [← hm]; simp
      have HF : Hid (k + ((List.replicate m v).map (Value.int .i64)).length ≤ ((repTo v n k).map (Value.int .i64)).length) := by
        show _ ≤ _
        rw [List.length_map, List.length_map, repTo_len hk, List.length_replicate]
        omega
      clear hm
      have hown : OwnI wr w.heap.size (w.heap.size + 1) (.slice (some ⟨w.heap.size, 0, none⟩) n n) (repTo v n k) := OwnI.of_row hr.out (Nat.le_refl _) (by omega) (repTo_len hk) (by omega)
      have HS : Hid (∀ (W : World) j u, W.heap = wr.heap → ((List.replicate m v).map (Value.int .i64))[j]? = some u → W.cell? (Addr.add ⟨w.heap.size, 0, none⟩ j) = some u) := by
        intro W j u hW hj
        have hjm : j < m := by have := (List.getElem?_eq_some_iff.1 hj).1; simpa using this
        have h2 := hown.cellAt j (by omega)
        rw [Addr.add_lit, Nat.zero_add]
        have h3 : W.cell? ⟨w.heap.size, j, none⟩ = wr.cell? ⟨w.heap.size, j, none⟩ := World.cell?_of_block (by rw [hW])
        rw [h3, h2, ix_lt (by rw [repTo_len hk]; omega)]
        simp only [repTo]
        rw [List.getElem_append_left (by simp; omega)]
        simp [hjm] at hj ⊢
        exact hj
      have e1 : IntKind.i64.wrap ((k : Int) + (m : Int)) = (k : Int) + (m : Int) := by rw [IntKind.wrap_i64]; omega
      have E1 := Lib.hid e1
      clear hown e1
      have hne : ¬ (n = k) := by omega
      go_wp2
      go_region_law (refine step_copy_splice (by rfl) (.tmp 41) (.tmp 44) 27 27 (by rfl) 3 Tryz.underlying27 infoSz (some ⟨w.heap.size, k, none⟩) (some ⟨w.heap.size, 0, none⟩) (n - k) (n - k) k n (by simp [Act.eval, Act.put, hne]) (by simp [Act.eval, Act.put]) w.heap.size k ((repTo v n k).map (Value.int .i64)) 3 hr.out ((List.replicate m v).map (Value.int .i64)) HM.out (fun _ => ⟨rfl, _, rfl, fun j u hj => HS.out _ j u rfl hj⟩) HF.out (ints_oneCell _ _) w.heap.size w hb.drew (Nat.le_refl _) ?_; intro w4 hg4 hb4)
      all_goals
        have HR2 : Hid (w4.heap[w.heap.size]? = some (.cells ((repTo v n (k + m)).map (Value.int .i64)).toArray 3 (0, 0))) := by
          have e := repTo_splice (v := v) (n := n) (k := k) (m := m) (by omega)
          have h := hg4.out
          show _ = _
          rw [← e]
          exact h
        go_frame
        simp only [E1.out]
        go_roundw
        case rel => first | exact ⟨k + m, by omega, by omega, by go_num, HR2, hb4⟩ | ((repeat apply Exists.intro); exact ⟨⟨k + m, by omega, by omega, by go_num, HR2, hb4⟩, rfl⟩)
        case measure => simp [intOf]; omega
    · obtain rfl : k = n := by omega
      have ho : OwnI wr w.heap.size (w.heap.size + 1) (.slice (some ⟨w.heap.size, 0, none⟩) k k) (repTo v k k) := OwnI.of_row hr.out (Nat.le_refl _) (by omega) (repTo_len (Nat.le_refl _)) (by omega)
      have e : repTo v k k = List.replicate k v := by simp [repTo]
      rw [e] at ho
      clear e
      go_wp2
      go_ret
      exact ⟨rfl, ho, hb⟩
end Go.Proofs.YtaanppihgldeaaaGreatDoor
namespace Go.Proofs.YtaanppihgldeaaaGreatDoor
set_option linter.unusedSimpArgs false
set_option linter.unusedVariables false
set_option linter.unusedVariables false
open Go.RowKit

/-- the list of f's first M values -/
def lfn (f : Nat → Int) (M : Nat) : List Int := (List.range M).map f
theorem lfn_len (f : Nat → Int) (M : Nat) : (lfn f M).length = M := by simp [lfn]
theorem lfn_ix {f : Nat → Int} {M i : Nat} (h : i < M) : ix (lfn f M) i = f i := by rw [ix_lt (by rw [lfn_len]; exact h)]; simp [lfn]
theorem lfn_ext {f g : Nat → Int} {M : Nat} (h : ∀ i, i < M → f i = g i) : lfn f M = lfn g M := List.map_congr_left fun i hi => h i (List.mem_range.1 hi)
theorem lfn_set {f : Nat → Int} {M k : Nat} (v : Int) (hk : k < M) : (lfn f M).set k v = lfn (fun i => if i = k then v else f i) M := by
  apply List.ext_getElem
  · simp [lfn_len]
  · intro i h1 h2
    rw [List.length_set, lfn_len] at h1
    rw [← ix_lt, ← ix_lt, ix_setP (by rw [lfn_len]; exact hk), lfn_ix h1, lfn_ix h1]
theorem lfn_rep (v : Int) (M : Nat) : List.replicate M v = lfn (fun _ => v) M := by
  apply List.ext_getElem
  · simp [lfn_len]
  · intro i h1 h2; simp [lfn]
/-- the first k values are full's, value k is cur, the rest init -/
def part (full : Nat → Int) (k : Nat) (cur init : Int) (i : Nat) : Int := if i < k then full i else if i = k then cur else init
theorem part_set {full : Nat → Int} {M k : Nat} {cur init : Int} (v : Int) (hk : k < M) : (lfn (part full k cur init) M).set k v = lfn (part full k v init) M := by
  rw [lfn_set v hk]
  refine lfn_ext fun i _ => ?_
  unfold part
  by_cases e : i = k
  · subst e; rw [if_pos rfl, if_neg (by omega), if_pos rfl]
  · rw [if_neg e, if_neg e, if_neg e]
theorem part_next {full : Nat → Int} {M k : Nat} {cur init : Int} (h : cur = full k) : lfn (part full k cur init) M = lfn (part full (k + 1) init init) M := by
  refine lfn_ext fun i _ => ?_
  unfold part
  by_cases e : i = k
  · subst e; rw [if_neg (by omega), if_pos rfl, if_pos (by omega), h]
  · by_cases e2 : i < k
    · rw [if_pos e2, if_pos (by omega)]
    · rw [if_neg e2, if_neg e, if_neg (by omega)]; split <;> rfl
theorem part_end {full : Nat → Int} {M : Nat} {cur init : Int} : lfn (part full M cur init) M = lfn full M := lfn_ext fun i hi => by unfold part; rw [if_pos hi]
theorem part_start {full : Nat → Int} {M : Nat} (init : Int) : List.replicate M init = lfn (part full 0 init init) M := by
  rw [lfn_rep]
  refine lfn_ext fun i _ => ?_
  unfold part
  rw [if_neg (by omega)]; split <;> rfl
theorem part_ix {full : Nat → Int} {M k : Nat} {cur init : Int} (hk : k < M) : ix (lfn (part full k cur init) M) k = cur := by
  rw [lfn_ix hk]; unfold part; rw [if_neg (by omega), if_pos rfl]

def sumN (f : Nat → Int) : Nat → Int
  | 0 => 0
  | k + 1 => sumN f k + f k
theorem sumN_bd {f : Nat → Int} {lo hi : Int} (h : ∀ i, lo ≤ f i ∧ f i ≤ hi) : ∀ k, lo * k ≤ sumN f k ∧ sumN f k ≤ hi * k
  | 0 => by simp [sumN]
  | k + 1 => by
    have ih := sumN_bd h k
    have := h k
    rw [sumN, Int.natCast_add, Int.mul_add, Int.mul_add]
    simp only [Int.natCast_one, Int.mul_one]
    omega
theorem cmpI_bd (a b : Int) : -1 ≤ cmpI a b ∧ cmpI a b ≤ 1 := by
  unfold cmpI
  split
  · omega
  · split <;> omega
def copF (vs : List Vt) (a : Nat) (b : Nat) : Int := cmpI (marginP vs (a : Int) (b : Int)) 0
def copeland (m : Int) (vs : List Vt) : List Int := lfn (fun a => sumN (copF vs a) m.toNat) m.toNat
def copelandR (m : Int) (vs : List Vt) : List Int := if profOk m vs then copeland m vs else []
set_option maxRecDepth 100000 in
set_option maxHeartbeats 1000000 in
theorem implCopeland (m : Int) (A : Option Addr) (n c : Nat) (vs : List Vt) (w : World) (h : VotesAt w A n vs) (hn : n ≤ 1048576) (hx : ∀ v ∈ vs, v.r.length ≤ 1048576) :
    Calls Tryz.prog 60 #[.agg #[.int .i64 m, .slice A n c]] w fun e w' => ∃ A' c', e = .returned (.slice A' (copelandR m vs).length c') ∧ OwnI w' w.heap.size w'.heap.size (.slice A' (copelandR m vs).length c') (copelandR m vs) ∧ Below w.heap.size w w' := by
  obtain rfl := h.len
  have hB := alloc_below w (.cells #[.int .i64 m, .slice A vs.length c] 24)
  obtain ⟨x0, x1⟩ := PBox.new w m A vs.length c 24 rfl
  replace h := h.below hB
  generalize hw0 : w.alloc (.cells #[.int .i64 m, .slice A vs.length c] 24) = w0 at *
  have K := Lib.hid (implProfileOk m A vs.length c vs _ h hn hx)
  unfold copelandR
  clear hx
  cases hp : profOk m vs
  · rw [hp] at K
    simp only [Bool.false_eq_true, if_false, List.length_nil]
    go_enter Tryz.func60, Tryz.ntmps60
    go_wp2_with fail
    (with_reducible refine (K.out).mono ?_)
    rintro e w1 ⟨rfl, b1⟩
    replace hB := hB.trans (b1.mono hB.size)
    clear b1
    go_wp2
    go_ret
    exact ⟨_, _, rfl, OwnI.nil _ _ _, hB⟩
  rw [hp] at K
  have F := pf_of hp
  simp only [if_true]
  obtain ⟨M, rfl⟩ : ∃ M : Nat, m = (M : Int) := ⟨m.toNat, by have := F.m1; omega⟩
  have M5 : M ≤ 5 := by have := F.m5; omega
  unfold copeland
  rw [Int.toNat_natCast, lfn_len]
  go_enter Tryz.func60, Tryz.ntmps60
  go_wp2_with fail
  (with_reducible refine (K.out).mono ?_)
  rintro e w1 ⟨rfl, b1⟩
  replace x0 := cell_carry b1 x0
  replace x1 := cell_carry b1 x1
  replace h := h.below b1
  replace hB := hB.trans (b1.mono hB.size)
  clear b1
  clear K
  go_wp2_with ((with_reducible refine wpList_make_ints _ rfl _ _ rfl M rfl rfl (by omega) ?_))
  intro w3 ho hb hs
  have z3 := hb.size
  have e0 := part_start (full := fun a => sumN (copF vs a) M) (M := M) 0
  rw [e0] at ho
  have z0 := hB.size
  have gs : w1.heap.size < w3.heap.size := by omega
  clear hs e0 hw0
  go_wp2
  go_loopw [4, 14] (fun _ i wr => ∃ k : Nat, k ≤ M ∧ i = .int .i64 k ∧ OwnI wr w1.heap.size (w1.heap.size + 1) (.slice (some ⟨w1.heap.size, 0, none⟩) M M) (lfn (part (fun a => sumN (copF vs a) M) k 0 0) M) ∧ Below w1.heap.size w1 wr ∧ w1.heap.size < wr.heap.size) (fun _ i _ => M - (intOf i).toNat)
  case atStart => exact ⟨0, Nat.zero_le _, rfl, ho, hb, gs⟩
  case round =>
    clear ho hb gs z3
    obtain ⟨wo, rfl⟩ : ∃ wo, wo = wr := ⟨_, rfl⟩
    obtain ⟨k, hk, rfl, hok, hbr, zr⟩ := hrel
    by_cases hlt : k < M
    · have x0' := cell_carry hbr x0
      go_wp2
      clear x0'
      go_loopw [5, 19] (fun _ i wr => ∃ j : Nat, j ≤ M ∧ i = .int .i64 j ∧ OwnI wr w1.heap.size (w1.heap.size + 1) (.slice (some ⟨w1.heap.size, 0, none⟩) M M) (lfn (part (fun a => sumN (copF vs a) M) k (sumN (copF vs k) j) 0) M) ∧ Below w1.heap.size w1 wr ∧ w1.heap.size < wr.heap.size) (fun _ i _ => M - (intOf i).toNat)
      case atStart => exact ⟨0, Nat.zero_le _, rfl, hok, hbr, zr⟩
      case round =>
        clear hok hbr zr
        obtain ⟨j, hj, rfl, hoj, hbj, zj⟩ := hrel
        by_cases hlj : j < M
        · have d1 := hoj.cellAt k hlt
          have d2 := hoj.frozenAt k
          rw [part_ix hlt] at d1
          have bd := sumN_bd (f := copF vs k) (lo := -1) (hi := 1) (fun i => cmpI_bd _ _) j
          have HS : Hid (sumN (copF vs k) (j + 1) = sumN (copF vs k) j + copF vs k j) := rfl
          have cb : -1 ≤ copF vs k j ∧ copF vs k j ≤ 1 := cmpI_bd _ _
          have hv := h.below hbj
          have K1 : Hid (∀ L : Later wr, Calls Tryz.prog 96 #[.agg #[.int .i64 (M : Int), .slice A vs.length c], .int .i64 (k : Int), .int .i64 (j : Int)] L.W fun e W' => e = .returned (.int .i64 (marginP vs (k : Int) (j : Int))) ∧ ∃ L' : Later wr, W' = L'.W) :=
            fun L => L.call (implMargin (M : Int) A _ c vs (k : Int) (j : Int) L.W (hv.below L.h) F)
          have K2 : Hid (∀ L : Later wr, Calls Tryz.prog 103 #[.int .i64 (marginP vs (k : Int) (j : Int)), .int .i64 0] L.W fun e W' => e = .returned (.int .i64 (copF vs k j)) ∧ ∃ L' : Later wr, W' = L'.W) :=
            fun L => L.call_same (compare_any _ _ _)
          have q0 : ∀ L : Later wr, L.W.cell? ⟨w.heap.size, 0, none⟩ = some (.int .i64 (M : Int)) := fun L => L.cell (cell_carry hbj x0)
          have q1 : ∀ L : Later wr, L.W.cell? ⟨w.heap.size, 1, none⟩ = some (.slice A vs.length c) := fun L => L.cell (cell_carry hbj x1)
          have q2 : ∀ L : Later wr, L.W.cell? ⟨w1.heap.size, k, none⟩ = some (.int .i64 (sumN (copF vs k) j)) := fun L => L.cell d1
          clear hv
          generalize copF vs k j = y at *
          generalize hsj : sumN (copF vs k) j = s at *
          generalize marginP vs (k : Int) (j : Int) = mg at *
          have ew : IntKind.i64.wrap (s + y) = s + y := IntWalk.i64_in _ (by omega)
          go_upto_region 10 with fail
          refine wp_region_later_tail 11 (by kernel_rfl) (by kernel_rfl) ?_
          simp only [List.take_succ_cons, List.take_zero, List.drop_succ_cons, List.drop_zero]
          repeat (go_big_quiet_step (first | (with_reducible exact K1.out _) | (with_reducible exact K2.out _)))
          (refine wpQuiet_nil ?_; rintro wl ⟨L_, hwl_⟩; have hbl := L_.h; rw [← hwl_] at hbl; clear hwl_ L_)
          have hol := hoj.belowW hbl
          have f1 := hol.frozenAt k
          have f2 := hol.cellAt k hlt
          obtain ⟨ho6, hon6⟩ := hol.stored k (s + y)
          rw [part_set _ hlt] at ho6
          have hbw := hbj.trans (hbl.mono hbj.size)
          have z5 := hbl.size
          clear d1 d2 K1 K2 q0 q1 q2 hoj hol hbl
          go_wp2
          go_roundw
          case rel => exact ⟨j + 1, by omega, by go_num, by rw [HS.out]; exact ho6, hbw.trans (hon6.toBelow (Nat.le_refl _) hbw.size), by rw [World.size_setCell]; omega⟩
          case measure => simp [intOf]; omega
        · obtain rfl : j = M := by omega
          have e := part_next (full := fun a => sumN (copF vs a) j) (M := j) (k := k) (cur := sumN (copF vs k) j) (init := 0) rfl
          rw [e] at hoj
          clear e
          go_wp2
          go_roundw
          case rel => exact ⟨k + 1, by omega, by go_num, hoj, hbj, zj⟩
          case measure => simp [intOf]; omega
    · obtain rfl : k = M := by omega
      rw [part_end] at hok
      have hB5 := hB.trans (hbr.mono hB.size)
      go_wp2
      go_ret
      exact ⟨_, _, rfl, hok.mono z0 (by omega), hB5⟩
def minN (f : Nat → Int) (skip : Nat) (init : Int) : Nat → Int
  | 0 => init
  | k + 1 => if k = skip then minN f skip init k else min (minN f skip init k) (f k)
theorem minN_bd {f : Nat → Int} {s : Nat} {init B : Int} (h : ∀ i, 0 ≤ f i) (h0 : 0 ≤ init ∧ init ≤ B) : ∀ k, 0 ≤ minN f s init k ∧ minN f s init k ≤ B
  | 0 => h0
  | k + 1 => by
    have ih := minN_bd (s := s) h h0 k
    have := h k
    rw [minN]; split <;> omega
def maxmF (vs : List Vt) (a : Nat) (b : Nat) : Int := pairP vs (a : Int) (b : Int)
def maximin (m : Int) (vs : List Vt) : List Int := lfn (fun a => minN (maxmF vs a) a (votersP vs) m.toNat) m.toNat
def maximinR (m : Int) (vs : List Vt) : List Int := if profOk m vs then maximin m vs else []
set_option maxRecDepth 100000 in
set_option maxHeartbeats 1000000 in
theorem implMaximin (m : Int) (A : Option Addr) (n c : Nat) (vs : List Vt) (w : World) (h : VotesAt w A n vs) (hn : n ≤ 1048576) (hx : ∀ v ∈ vs, v.r.length ≤ 1048576) :
    Calls Tryz.prog 61 #[.agg #[.int .i64 m, .slice A n c]] w fun e w' => ∃ A' c', e = .returned (.slice A' (maximinR m vs).length c') ∧ OwnI w' w.heap.size w'.heap.size (.slice A' (maximinR m vs).length c') (maximinR m vs) ∧ Below w.heap.size w w' := by
  obtain rfl := h.len
  have hB := alloc_below w (.cells #[.int .i64 m, .slice A vs.length c] 24)
  obtain ⟨x0, x1⟩ := PBox.new w m A vs.length c 24 rfl
  replace h := h.below hB
  generalize hw0 : w.alloc (.cells #[.int .i64 m, .slice A vs.length c] 24) = w0 at *
  have K := Lib.hid (implProfileOk m A vs.length c vs _ h hn hx)
  have K2 := fun W hW => implCountVoters m A vs.length c vs W hW hn hx
  unfold maximinR
  clear hx
  cases hp : profOk m vs
  · rw [hp] at K
    simp only [Bool.false_eq_true, if_false, List.length_nil]
    clear K2
    go_enter Tryz.func61, Tryz.ntmps61
    go_wp2_with fail
    (with_reducible refine (K.out).mono ?_)
    rintro e w1 ⟨rfl, b1⟩
    replace hB := hB.trans (b1.mono hB.size)
    clear b1
    go_wp2
    go_ret
    exact ⟨_, _, rfl, OwnI.nil _ _ _, hB⟩
  rw [hp] at K
  simp only [hp, if_true] at K2
  have HK := Lib.hid K2
  clear K2
  have F := pf_of hp
  simp only [if_true]
  obtain ⟨M, rfl⟩ : ∃ M : Nat, m = (M : Int) := ⟨m.toNat, by have := F.m1; omega⟩
  have M5 : M ≤ 5 := by have := F.m5; omega
  have M1 : 1 ≤ M := by have := F.m1; omega
  have VB : 0 ≤ votersP vs ∧ votersP vs ≤ 24000 := vts_bd F.c F.n
  unfold maximin
  rw [Int.toNat_natCast, lfn_len]
  have PS := Lib.hid (part_start (full := fun a => minN (maxmF vs a) a (votersP vs) M) (M := M) (votersP vs))
  generalize hvp : votersP vs = V at *
  go_enter Tryz.func61, Tryz.ntmps61
  go_wp2_with fail
  (with_reducible refine (K.out).mono ?_)
  rintro e w1 ⟨rfl, b1⟩
  replace x0 := cell_carry b1 x0
  replace x1 := cell_carry b1 x1
  replace h := h.below b1
  replace hB := hB.trans (b1.mono hB.size)
  clear b1
  clear K hw0 hvp hp
  have z0 := hB.size
  go_upto_region 3 with fail
  go_cut [3] from 9 to 14 (fun v3 wx => ∃ g, v3 = .slice (some ⟨g, 0, none⟩) M M ∧ OwnI wx g (g + 1) (.slice (some ⟨g, 0, none⟩) M M) (List.replicate M V) ∧ Below w1.heap.size w1 wx ∧ w1.heap.size ≤ g ∧ g < wx.heap.size)
  case first =>
    go_region_held3 (fun w' => w'.cell? ⟨w.heap.size, 0, none⟩ = some (.int .i64 (M : Int)) ∧ w'.cell? ⟨w.heap.size, 1, none⟩ = some (.slice A vs.length c)) ((refine ⟨?_, ?_⟩ <;> (first | assumption | go_keep)))
      (first
        | (go_at_call 78; (with_reducible refine (HK.out _ (h.below (Below.refl _ _).drew)).mono ?_); rintro e w2 ⟨rfl, b2⟩; have x0 := cell_carry b2 x0; have x1 := cell_carry b2 x1)
        | (go_at_call 104; (with_reducible refine (repeat1_any w2.heap.size 0 1 V M _ (new_cell _ _ _ rfl) M1 (by omega)).mono ?_); rintro e w3 ⟨rfl, o3, b3⟩; have x0 := cell_carry b3 (old_cell x0 (.cells #[.int .i64 V] 3)); have x1 := cell_carry b3 (old_cell x1 (.cells #[.int .i64 V] 3))))
    all_goals
      go_wp2_with fail
      go_meet
      case rel =>
        have b4 := (((Below.refl w1.heap.size w1).drew).trans b2).trans ((alloc_below w2 (.cells #[.int .i64 V] 3)).mono b2.size)
        have z1 := b2.size
        have z2 : w2.heap.size < (w2.alloc (.cells #[.int .i64 V] 3)).heap.size := by simp
        have z3 := (o3.ints.2.2.2 _ rfl)
        obtain ⟨_, e3, _, _, z3⟩ := z3
        cases e3
        have b5 := b4.trans (b3.mono b4.size)
        have b6 := b4.size
        have hz : (w2.alloc (.cells #[.int .i64 V] 3)).heap.size = w2.heap.size + 1 := by simp
        rw [hz] at o3 z3 b6
        exact ⟨_, rfl, o3, b5, b6, z3⟩
  case rest =>
    obtain ⟨g, rfl, ho, hb, zg, zg2⟩ := hcut
    rw [PS.out] at ho
    clear PS HK
    go_wp2
    go_loopw [4, 17] (fun _ i wr => ∃ k : Nat, k ≤ M ∧ i = .int .i64 k ∧ OwnI wr g (g + 1) (.slice (some ⟨g, 0, none⟩) M M) (lfn (part (fun a => minN (maxmF vs a) a V M) k V V) M) ∧ Below w1.heap.size w1 wr ∧ g < wr.heap.size) (fun _ i _ => M - (intOf i).toNat)
    case atStart => exact ⟨0, Nat.zero_le _, rfl, ho, hb, zg2⟩
    case round =>
      clear ho hb zg2
      obtain ⟨wo, rfl⟩ : ∃ wo, wo = wr := ⟨_, rfl⟩
      obtain ⟨k, hk, rfl, hok, hbr, zr⟩ := hrel
      by_cases hlt : k < M
      · have x0' := cell_carry hbr x0
        go_wp2
        clear x0'
        go_loopw [5, 22] (fun _ i wr => ∃ j : Nat, j ≤ M ∧ i = .int .i64 j ∧ OwnI wr g (g + 1) (.slice (some ⟨g, 0, none⟩) M M) (lfn (part (fun a => minN (maxmF vs a) a V M) k (minN (maxmF vs k) k V j) V) M) ∧ Below w1.heap.size w1 wr ∧ g < wr.heap.size) (fun _ i _ => M - (intOf i).toNat)
        case atStart => exact ⟨0, Nat.zero_le _, rfl, hok, hbr, zr⟩
        case round =>
          clear hok hbr zr
          obtain ⟨j, hj, rfl, hoj, hbj, zj⟩ := hrel
          by_cases hlj : j < M
          · have HS : Hid (minN (maxmF vs k) k V (j + 1) = if j = k then minN (maxmF vs k) k V j else min (minN (maxmF vs k) k V j) (maxmF vs k j)) := rfl
            by_cases hjk : j = k
            · subst hjk
              rw [if_pos rfl] at HS
              go_wp2
              go_roundw
              case rel => exact ⟨j + 1, by omega, by go_num, by rw [HS.out]; exact hoj, hbj, zj⟩
              case measure => simp [intOf]; omega
            rw [if_neg hjk] at HS
            have e1 : ((k : Int) != (j : Int)) = true := by rw [bne_iff_ne]; omega
            clear hjk
            have d1 := hoj.cellAt k hlt
            have d2 := hoj.frozenAt k
            rw [part_ix hlt] at d1
            have hv := h.below hbj
            have K1 : Hid (∀ L : Later wr, Calls Tryz.prog 105 #[.agg #[.int .i64 (M : Int), .slice A vs.length c], .int .i64 (k : Int), .int .i64 (j : Int)] L.W fun e W' => e = .returned (.int .i64 (maxmF vs k j)) ∧ ∃ L' : Later wr, W' = L'.W) :=
              fun L => L.call (implPair (M : Int) A _ c vs (k : Int) (j : Int) L.W (hv.below L.h) F)
            have q0 : ∀ L : Later wr, L.W.cell? ⟨w.heap.size, 0, none⟩ = some (.int .i64 (M : Int)) := fun L => L.cell (cell_carry hbj x0)
            have q1 : ∀ L : Later wr, L.W.cell? ⟨w.heap.size, 1, none⟩ = some (.slice A vs.length c) := fun L => L.cell (cell_carry hbj x1)
            have q2 : ∀ L : Later wr, L.W.cell? ⟨g, k, none⟩ = some (.int .i64 (minN (maxmF vs k) k V j)) := fun L => L.cell d1
            clear hv
            generalize maxmF vs k j = y at *
            generalize minN (maxmF vs k) k V j = s at *
            go_upto_region 11 with fail
            refine wp_region_later_tail 12 (by kernel_rfl) (by kernel_rfl) ?_
            simp only [List.take_succ_cons, List.take_zero, List.drop_succ_cons, List.drop_zero]
            repeat (go_big_quiet_step (first | (with_reducible exact K1.out _)))
            (refine wpQuiet_nil ?_; rintro wl ⟨L_, hwl_⟩; have hbl := L_.h; rw [← hwl_] at hbl; clear hwl_ L_)
            have hol := hoj.belowW hbl
            have f1 := hol.frozenAt k
            have f2 := hol.cellAt k hlt
            have hm : min s y = if y < s then y else s := by split <;> omega
            rw [hm] at HS
            obtain ⟨ho6, hon6⟩ := hol.stored k (if y < s then y else s)
            rw [part_set _ hlt] at ho6
            generalize (if y < s then y else s) = mn at *
            have hbw := hbj.trans (hbl.mono hbj.size)
            have z5 := hbl.size
            clear d1 d2 K1 q0 q1 q2 hoj hol hbl hm
            go_wp2
            go_roundw
            case rel => exact ⟨j + 1, by omega, by go_num, by rw [HS.out]; exact ho6, hbw.trans (hon6.toBelow zg hbw.size), by rw [World.size_setCell]; omega⟩
            case measure => simp [intOf]; omega
          · obtain rfl : j = M := by omega
            have e := part_next (full := fun a => minN (maxmF vs a) a V j) (M := j) (k := k) (cur := minN (maxmF vs k) k V j) (init := V) rfl
            rw [e] at hoj
            clear e
            go_wp2
            go_roundw
            case rel => exact ⟨k + 1, by omega, by go_num, hoj, hbj, zj⟩
            case measure => simp [intOf]; omega
      · obtain rfl : k = M := by omega
        rw [part_end] at hok
        have hB5 := hB.trans (hbr.mono hB.size)
        go_wp2
        go_ret
        exact ⟨_, _, rfl, hok.mono (by omega) (by omega), hB5⟩
end Go.Proofs.YtaanppihgldeaaaGreatDoor
