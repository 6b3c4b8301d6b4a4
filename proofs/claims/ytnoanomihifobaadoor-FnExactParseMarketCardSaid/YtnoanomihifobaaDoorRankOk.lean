/- Rankings: a list of each of the first numbers once. -/
import Derived.Test.YtnoanomihifobaaDoorRank
import Derived.Test.YtnoanomihifobaaDoorBaseB
namespace Go.Proofs.YtnoanomihifobaaDoor
set_option linter.unusedVariables false
open Go.RowKit

def rankTo (m : Int) (xs : List Int) (k : Nat) : Bool := allN (fun i => inB (ix xs i) 0 (m - 1) && !has (xs.take i) (ix xs i)) k
/-- a list of m numbers, each of the first m once; m from 1 to 5 -/
def rankOk (m : Int) (xs : List Int) : Bool := inB m 1 5 && decide ((xs.length : Int) = m) && rankTo m xs xs.length

theorem rank_no1 {m : Int} {xs : List Int} {k : Nat} (h : k < xs.length) (hv : inB (ix xs k) 0 (m - 1) = false) : rankTo m xs xs.length = false := allN_false h (by rw [hv]; rfl)
theorem rank_no2 {m : Int} {xs : List Int} {k : Nat} (h : k < xs.length) (hv : has (xs.take k) (ix xs k) = true) : rankTo m xs xs.length = false := allN_false h (by simp [hv])
theorem rank_step {m : Int} {xs : List Int} {k : Nat} (h : rankTo m xs k = true) (h1 : inB (ix xs k) 0 (m - 1) = true) (h2 : has (xs.take k) (ix xs k) = false) : rankTo m xs (k + 1) = true :=
  allN_step h (by rw [h1, h2]; rfl)
set_option maxHeartbeats 400000 in
theorem implRankingOk (m : Int) (A : Option Addr) (n c : Nat) (xs : List Int) (w : World) (h : IntsAt w A n xs) (hn : n ≤ 1048576) (hc : n ≤ c) :
    Calls Tryd.prog 39 #[.int .i64 m, .slice A n c] w fun e w' => e = .returned (.bool (rankOk m xs)) ∧ w = w' := by
  obtain rfl := h.len
  unfold rankOk
  cases hm : inB m 1 5
  · go_enter Tryd.func39, Tryd.ntmps39
    go_wp2_with (go_at_call 26; refine (within_any _ _ _ _).mono ?_; rintro e w' ⟨rfl, rfl⟩)
    go_ret
    exact ⟨rfl, rfl⟩
  obtain ⟨m1, m2⟩ := inB_iff.1 hm
  by_cases hl : (xs.length : Int) = m
  · rw [decide_eq_true hl]
    obtain rfl := hl
    go_enter Tryd.func39, Tryd.ntmps39
    go_wp2_with (go_at_call 26; refine (within_any _ _ _ _).mono ?_; rintro e w' ⟨rfl, rfl⟩)
    go_loop [5, 6, 18] (fun _ _ i => ∃ k : Nat, k ≤ xs.length ∧ i = .int .i64 k ∧ rankTo xs.length xs k = true) (fun _ _ i => xs.length - (intOf i).toNat)
    case atStart => exact ⟨0, Nat.zero_le _, rfl, rfl⟩
    case round =>
      obtain ⟨k, hk, rfl, hid⟩ := hrel
      have HI := Lib.hid hid
      clear hid
      by_cases hlt : k < xs.length
      · have ht := h.take hk
        obtain ⟨b, o, rfl, _, hcc⟩ := h.at_ hlt
        have hck := hcc k hlt
        clear hcc
        cases hv : inB (ix xs k) 0 ((xs.length : Int) - 1)
        · have HS := Lib.hid (rank_no1 hlt hv)
          go_wp2_with (go_at_call 26; refine (within_any _ _ _ _).mono ?_; rintro e w' ⟨rfl, rfl⟩)
          go_ret
          exact ⟨ret_b (by rw [HS.out]; rfl), rfl⟩
        cases hh : has (xs.take k) (ix xs k)
        · have HS := Lib.hid (rank_step HI.out hv hh)
          go_wp2_with (first | (go_at_call 26; refine (within_any _ _ _ _).mono ?_; rintro e w' ⟨rfl, rfl⟩) | (go_at_call 49; (with_reducible refine (contains_any _ _ _ _ _ _ ht (by omega)).mono ?_); rintro e w' ⟨rfl, rfl⟩; rw [hh]))
          go_round
          case rel => exact ⟨k + 1, by omega, by go_num, HS.out⟩
          case measure => simp [intOf]; omega
        · have HS := Lib.hid (rank_no2 (m := xs.length) hlt hh)
          go_wp2_with (first | (go_at_call 26; refine (within_any _ _ _ _).mono ?_; rintro e w' ⟨rfl, rfl⟩) | (go_at_call 49; (with_reducible refine (contains_any _ _ _ _ _ _ ht (by omega)).mono ?_); rintro e w' ⟨rfl, rfl⟩; rw [hh]))
          go_ret
          exact ⟨ret_b (by rw [HS.out]; rfl), rfl⟩
      · obtain rfl : k = xs.length := by omega
        go_wp2
        go_ret
        exact ⟨ret_b (by simp [HI.out]), rfl⟩
  · rw [decide_eq_false hl]
    have hlt : (xs.length : Int) < m ∨ m < xs.length := by omega
    have h1 : ((xs.length : Int) != m) = true := by simpa using hl
    go_enter Tryd.func39, Tryd.ntmps39
    go_wp2_with (go_at_call 26; refine (within_any _ _ _ _).mono ?_; rintro e w' ⟨rfl, rfl⟩)
    go_ret
    exact ⟨rfl, rfl⟩

/-- which numbers below n stand among the first k -/
def seenB (n : Nat) (xs : List Int) (k : Nat) : List Bool := (List.range n).map fun (j : Nat) => has (xs.take k) j
theorem seenB_len (n : Nat) (xs : List Int) (k : Nat) : (seenB n xs k).length = n := by simp [seenB]
theorem bx_seenB {n : Nat} {xs : List Int} {k j : Nat} (hj : j < n) : bx (seenB n xs k) j = has (xs.take k) j := by rw [bx_lt (by rw [seenB_len]; exact hj)]; simp [seenB]
theorem seenB_0 (n : Nat) (xs : List Int) : seenB n xs 0 = List.replicate n false := by
  apply List.ext_getElem
  · simp [seenB]
  · intro i h1 h2
    simp [seenB, has_not]
theorem seenB_set {n : Nat} {xs : List Int} {k j : Nat} (hk : k < xs.length) (hj : ix xs k = (j : Int)) : (seenB n xs k).set j true = seenB n xs (k + 1) := by
  apply List.ext_getElem
  · simp [seenB]
  · intro i h1 h2
    rw [List.getElem_set]
    simp only [seenB, List.getElem_map, List.getElem_range]
    rw [take_ix hk, hj]
    by_cases e : j = i
    · subst e; rw [if_pos rfl]; symm; rw [has_iff]; simp
    · rw [if_neg e, Bool.eq_iff_iff, has_iff, has_iff]
      simp
      omega
set_option maxHeartbeats 400000 in
theorem specRankingOk (m : Int) (A : Option Addr) (n c : Nat) (xs : List Int) (w : World) (h : IntsAt w A n xs) (hn : n ≤ 1048576) (hc : n ≤ c) :
    Calls Tryd.prog 34 #[.int .i64 m, .slice A n c] w fun e w' => e = .returned (.bool (rankOk m xs)) ∧ Below w.heap.size w w' := by
  obtain rfl := h.len
  unfold rankOk
  cases hm : inB m 1 5
  · go_enter Tryd.func34, Tryd.ntmps34
    go_wp2_with (go_at_call 21; refine (l01In_any _ _ _ _).mono ?_; rintro e w' ⟨rfl, rfl⟩)
    go_ret
    exact ⟨rfl, Below.refl _ _⟩
  obtain ⟨m1, m2⟩ := inB_iff.1 hm
  by_cases hl : (xs.length : Int) = m
  · rw [decide_eq_true hl]
    obtain rfl := hl
    go_enter Tryd.func34, Tryd.ntmps34
    go_wp2_with (first | (go_at_call 21; refine (l01In_any _ _ _ _).mono ?_; rintro e w' ⟨rfl, rfl⟩) | ((with_reducible refine wpList_make_bools _ rfl _ _ rfl xs.length rfl rfl (by omega) ?_); intro w1 ho1 hb1 hs1))
    have z1 := hb1.size
    rw [← seenB_0 xs.length xs] at ho1
    go_loopw [7, 21] (fun _ i wr => ∃ k : Nat, k ≤ xs.length ∧ i = .int .i64 k ∧ rankTo xs.length xs k = true ∧ OwnB wr w.heap.size (w.heap.size + 1) (.slice (some ⟨w.heap.size, 0, none⟩) xs.length xs.length) (seenB xs.length xs k) ∧ Below w.heap.size w wr) (fun _ i _ => xs.length - (intOf i).toNat)
    case atStart => exact ⟨0, Nat.zero_le _, rfl, rfl, ho1, hb1⟩
    case round =>
      obtain ⟨k, hk, rfl, hid, hown, hb⟩ := hrel
      have HI := Lib.hid hid
      clear hid
      have zr := hb.size
      by_cases hlt : k < xs.length
      · obtain ⟨b, o, rfl, _, hcc⟩ := (h.below hb).at_ hlt
        have hck := hcc k hlt
        clear hcc
        cases hv : inB (ix xs k) 0 ((xs.length : Int) - 1)
        · have HS := Lib.hid (rank_no1 hlt hv)
          go_wp2_with (go_at_call 21; refine (l01In_any _ _ _ _).mono ?_; rintro e w' ⟨rfl, rfl⟩)
          go_ret
          exact ⟨ret_b (by rw [HS.out]; rfl), hb⟩
        obtain ⟨x0, x1⟩ := inB_iff.1 hv
        obtain ⟨j, hj⟩ : ∃ j : Nat, ix xs k = (j : Int) := ⟨(ix xs k).toNat, by omega⟩
        have hjl : j < xs.length := by omega
        have cj := hown.cellAt j hjl
        have fj := hown.frozenAt j
        rw [bx_seenB hjl] at cj
        rw [hj] at hck hv
        cases hh : has (xs.take k) (j : Int)
        · have HS := Lib.hid (rank_step HI.out (by rw [hj]; exact hv) (by rw [hj]; exact hh))
          have hst := hown.stored j true
          rw [seenB_set hlt hj] at hst
          obtain ⟨ho2, hon⟩ := hst
          have hb2 := Lib.hid (hb.trans (hon.toBelow (B := w.heap.size) (Nat.le_refl _) zr))
          have HO := Lib.hid ho2
          rw [hh] at cj
          clear hown hon ho2 hj x0 x1
          go_wp2_with (go_at_call 21; refine (l01In_any _ _ _ _).mono ?_; rintro e w' ⟨rfl, rfl⟩)
          go_roundw
          case rel => exact ⟨k + 1, by omega, by go_num, HS.out, HO.out, hb2.out⟩
          case measure => simp [intOf]; omega
        · have HS := Lib.hid (rank_no2 (m := xs.length) hlt (by rw [hj]; exact hh))
          rw [hh] at cj
          clear hown hj x0 x1
          go_wp2_with (go_at_call 21; refine (l01In_any _ _ _ _).mono ?_; rintro e w' ⟨rfl, rfl⟩)
          go_ret
          exact ⟨ret_b (by rw [HS.out]; rfl), hb⟩
      · obtain rfl : k = xs.length := by omega
        go_wp2
        go_ret
        exact ⟨ret_b (by simp [HI.out]), hb⟩
  · rw [decide_eq_false hl]
    have hlt : (xs.length : Int) < m ∨ m < xs.length := by omega
    have h1 : ((xs.length : Int) != m) = true := by simpa using hl
    go_enter Tryd.func34, Tryd.ntmps34
    go_wp2_with (go_at_call 21; refine (l01In_any _ _ _ _).mono ?_; rintro e w' ⟨rfl, rfl⟩)
    go_ret
    exact ⟨rfl, Below.refl _ _⟩
end Go.Proofs.YtnoanomihifobaaDoor
