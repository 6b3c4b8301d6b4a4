/- Weights of places, the program's side. Sums. Counts of votes: the check, and quotas. Scores, the program's side: WeightsOk, ScoresOf, greatest, ScoreWinners. A law on regions that draw their order: operations that are quiet in a class of worlds, ahead of a tail whose order is forced (a store behind calls that make memory). No program is walked here. -/
import Derived.Test.YtaanppihgldeaaaGreatDoorW05
import Derived.Deep.DrawnRows
import Derived.Test.YtaanppihgldeaaaGreatDoorW01
import Derived.Test.YtaanppihgldeaaaGreatDoorW03
import Derived.StillTailTactics
import Derived.Deep.DeepCutAuto
import Derived.StillTail
import Derived.Deep.Quiet
namespace Go.Proofs.YtaanppihgldeaaaGreatDoor
set_option linter.unusedSimpArgs false
set_option linter.unusedVariables false
set_option linter.unusedVariables false
open Go.RowKit

/-- f at the first k numbers -/
def mapTo (f : Int → Int) : Nat → List Int
  | 0 => []
  | k + 1 => mapTo f k ++ [f (k : Int)]
theorem mapTo_len (f : Int → Int) : ∀ k, (mapTo f k).length = k
  | 0 => rfl
  | k + 1 => by rw [mapTo, List.length_append, mapTo_len f k]; rfl
theorem mapTo_ix {f : Int → Int} : ∀ {k i : Nat}, i < k → ix (mapTo f k) i = f (i : Int)
  | 0, _, h => absurd h (by omega)
  | k + 1, i, h => by
    rw [mapTo]
    by_cases e : i < k
    · rw [ix_lt (by rw [List.length_append, mapTo_len]; omega), List.getElem_append_left (by rw [mapTo_len]; exact e), ← ix_lt, mapTo_ix e]
    · obtain rfl : i = k := by omega
      rw [ix_lt (by rw [List.length_append, mapTo_len]; simp), List.getElem_append_right (by rw [mapTo_len]; omega)]
      simp [mapTo_len]
def wtsOf (m : Int) (f : Int → Int) : List Int := if inB m 1 5 then mapTo f m.toNat else []
set_option maxHeartbeats 400000 in
theorem implWeightsOf (g : Nat) (lb : Array Value) (f : Int → Int) (m : Int) (w : World)
    (hen : ∀ (args : Array Value) (w : World), (callFunc g args).run Tryz.prog w = .ok (.enter g args) w)
    (hg : inB m 1 5 = true → ∀ (a : Nat) W, (a : Int) < m → Below w.heap.size w W → Calls Tryz.prog g (#[.int .i64 (a : Int)] ++ lb) W fun e W' => e = .returned (.int .i64 (f (a : Int))) ∧ Below W.heap.size W W') :
    Calls Tryz.prog 98 #[.int .i64 m, .func (.func g) #[] lb] w fun e w' => ∃ A' c', e = .returned (.slice A' (wtsOf m f).length c') ∧ OwnI w' w.heap.size w'.heap.size (.slice A' (wtsOf m f).length c') (wtsOf m f) ∧ Below w.heap.size w w' := by
  unfold wtsOf
  cases hm : inB m 1 5
  · simp only [Bool.false_eq_true, if_false, List.length_nil]
    clear hg
    go_enter Tryz.func98, Tryz.ntmps98
    go_wp2_with fail
    (with_reducible refine (within_any _ _ _ _).mono ?_)
    rintro e w1 ⟨rfl, rfl⟩
    rw [hm]
    go_wp2
    go_ret
    exact ⟨_, _, rfl, OwnI.nil _ _ _, Below.refl _ _⟩
  have HG := Lib.hid (hg hm)
  clear hg
  have hm' := inB_iff.1 hm
  obtain ⟨M, rfl⟩ : ∃ M : Nat, m = (M : Int) := ⟨m.toNat, by omega⟩
  simp only [if_true, Int.toNat_natCast]
  obtain ⟨T, hT⟩ : ∃ T, mapTo f M = T := ⟨_, rfl⟩
  rw [hT]
  go_enter Tryz.func98, Tryz.ntmps98
  go_wp2_with fail
  (with_reducible refine (within_any _ _ _ _).mono ?_)
  rintro e w1 ⟨rfl, rfl⟩
  rw [hm]
  go_wp2
  clear hm
  go_loopw [5, 6, 11] (fun v _ i wr => ∃ (k : Nat) (A' : Option Addr) (c' : Nat), k ≤ M ∧ i = .int .i64 k ∧ v = .slice A' (mapTo f k).length c' ∧ OwnI wr w.heap.size wr.heap.size (.slice A' (mapTo f k).length c') (mapTo f k) ∧ Below w.heap.size w wr) (fun _ _ i _ => M - (intOf i).toNat)
  case atStart => exact ⟨0, none, 0, Nat.zero_le _, rfl, rfl, OwnI.nil _ _ _, Below.refl _ _⟩
  case round =>
    obtain ⟨k, A1, c1, hk, rfl, rfl, ho, hb⟩ := hrel
    have hl := Nat.le_of_eq (mapTo_len f k)
    by_cases hlt : k < M
    · have HS : Hid (mapTo f (k + 1) = mapTo f k ++ [f (k : Int)]) := rfl
      generalize mapTo f k = xs at *
      have KK := Lib.hid (HG.out k wr (by omega) hb)
      generalize f (k : Int) = y at *
      go_wp2_with fail
      (with_reducible refine KK.out.mono ?_)
      rintro e w3 ⟨rfl, b3⟩
      replace ho := (ho.belowW b3).mono (Nat.le_refl _) b3.size
      replace hb := hb.trans (b3.mono hb.size)
      have z2 := hb.size
      clear b3 KK
      go_wp2_with (at_builtin; refine wpList_append_int _ rfl _ _ rfl (w.heap.size) _ (xs.length) _ _ _ rfl (ho.alloc _) (y) _ 1 rfl (new_cell _ _ _ rfl) (by omega) (by simp; omega) (by simp; omega) ?_)
      intro A4 c4 w4 o4 on4
      replace hb := (hb.alloc z2 _).trans (on4.toBelow (by omega) (by simp; omega))
      go_wp2
      go_roundw
      case rel => exact ⟨k + 1, A4, c4, by omega, by go_num, by rw [HS.out]; simp, by rw [HS.out]; simpa using o4, hb⟩
      case measure => simp [intOf]; omega
    · obtain rfl : k = M := by omega
      rw [hT] at ho ⊢
      go_wp2
      go_ret
      exact ⟨_, _, rfl, ho, hb⟩
def plurW (m : Int) : List Int := wtsOf m fun a => max 0 (1 - a)
def bordW (m : Int) : List Int := wtsOf m fun a => m - 1 - a
def vetoW (m : Int) : List Int := wtsOf m fun a => min 1 (m - 1 - a)
theorem implPlurality (m : Int) (w : World) :
    Calls Tryz.prog 56 #[.int .i64 m] w fun e w' => ∃ A' c', e = .returned (.slice A' (plurW m).length c') ∧ OwnI w' w.heap.size w'.heap.size (.slice A' (plurW m).length c') (plurW m) ∧ Below w.heap.size w w' := by
  have K := Lib.hid (implWeightsOf 99 #[] (fun a => max 0 (1 - a)) m w (enters Tryz.func99 (by kernel_rfl) rfl) (fun hm a W ha _ => by
    have := inB_iff.1 hm
    go_enter Tryz.func99, Tryz.ntmps99
    go_wp2
    all_goals
      go_ret
      exact ⟨ret_i (by omega), Below.refl _ _⟩))
  unfold plurW
  generalize wtsOf m (fun a => max 0 (1 - a)) = T at *
  go_enter Tryz.func56, Tryz.ntmps56
  go_wp2_with fail
  (with_reducible refine K.out.mono ?_)
  rintro e w1 ⟨A1, c1, rfl, o1, hB⟩
  go_wp2
  go_ret
  exact ⟨_, _, rfl, o1, hB⟩
theorem implBorda (m : Int) (w : World) :
    Calls Tryz.prog 57 #[.int .i64 m] w fun e w' => ∃ A' c', e = .returned (.slice A' (bordW m).length c') ∧ OwnI w' w.heap.size w'.heap.size (.slice A' (bordW m).length c') (bordW m) ∧ Below w.heap.size w w' := by
  have hB := alloc_below w (.cells #[.int .i64 m] 3)
  have x0 := new_cell w (.int .i64 m) 3 rfl
  generalize hw0 : w.alloc (.cells #[.int .i64 m] 3) = w0 at *
  have K := Lib.hid (implWeightsOf 100 #[.pointer (some ⟨w.heap.size, 0, none⟩)] (fun a => m - 1 - a) m w0 (enters Tryz.func100 (by kernel_rfl) rfl) (fun hm a W ha hb => by
    have := inB_iff.1 hm
    replace x0 := cell_carry hb x0
    go_enter Tryz.func100, Tryz.ntmps100
    go_wp2
    go_ret
    exact ⟨rfl, Below.refl _ _⟩))
  unfold bordW
  generalize wtsOf m (fun a => m - 1 - a) = T at *
  go_enter Tryz.func57, Tryz.ntmps57
  go_wp2_with fail
  (with_reducible refine K.out.mono ?_)
  rintro e w1 ⟨A1, c1, rfl, o1, b1⟩
  go_wp2
  go_ret
  exact ⟨_, _, rfl, o1.mono hB.size (Nat.le_refl _), hB.trans (b1.mono hB.size)⟩
theorem implVeto (m : Int) (w : World) :
    Calls Tryz.prog 58 #[.int .i64 m] w fun e w' => ∃ A' c', e = .returned (.slice A' (vetoW m).length c') ∧ OwnI w' w.heap.size w'.heap.size (.slice A' (vetoW m).length c') (vetoW m) ∧ Below w.heap.size w w' := by
  have hB := alloc_below w (.cells #[.int .i64 m] 3)
  have x0 := new_cell w (.int .i64 m) 3 rfl
  generalize hw0 : w.alloc (.cells #[.int .i64 m] 3) = w0 at *
  have K := Lib.hid (implWeightsOf 101 #[.pointer (some ⟨w.heap.size, 0, none⟩)] (fun a => min 1 (m - 1 - a)) m w0 (enters Tryz.func101 (by kernel_rfl) rfl) (fun hm a W ha hb => by
    have := inB_iff.1 hm
    replace x0 := cell_carry hb x0
    go_enter Tryz.func101, Tryz.ntmps101
    go_wp2
    all_goals
      go_ret
      exact ⟨ret_i (by omega), Below.refl _ _⟩))
  unfold vetoW
  generalize wtsOf m (fun a => min 1 (m - 1 - a)) = T at *
  go_enter Tryz.func58, Tryz.ntmps58
  go_wp2_with fail
  (with_reducible refine K.out.mono ?_)
  rintro e w1 ⟨A1, c1, rfl, o1, b1⟩
  go_wp2
  go_ret
  exact ⟨_, _, rfl, o1.mono hB.size (Nat.le_refl _), hB.trans (b1.mono hB.size)⟩
end Go.Proofs.YtaanppihgldeaaaGreatDoor
namespace Go.Proofs.YtaanppihgldeaaaGreatDoor
set_option linter.unusedSimpArgs false
set_option linter.unusedVariables false
set_option linter.unusedVariables false
open Go.RowKit

def lsum : List Int → Int
  | [] => 0
  | x :: r => x + lsum r
theorem lsum_append (a b : List Int) : lsum (a ++ b) = lsum a + lsum b := by
  induction a with
  | nil => simp [lsum]
  | cons x a ih => simp only [List.cons_append, lsum, ih]; omega
theorem lsum_take {xs : List Int} {k : Nat} (h : k < xs.length) : lsum (xs.take (k + 1)) = lsum (xs.take k) + ix xs k := by
  rw [take_ix h, lsum_append]; simp [lsum]
theorem lsum_bd (xs : List Int) (m : Nat) (h : ∀ x ∈ xs, 0 ≤ x ∧ x ≤ m) : 0 ≤ lsum xs ∧ lsum xs ≤ xs.length * m := by
  induction xs with
  | nil => simp [lsum]
  | cons x r ih =>
    have h1 := ih fun y hy => h y (by simp [hy])
    have h2 := h x (by simp)
    simp only [lsum, List.length_cons, Int.natCast_add, Int.add_mul]
    omega
end Go.Proofs.YtaanppihgldeaaaGreatDoor
namespace Go.Proofs.YtaanppihgldeaaaGreatDoor
set_option linter.unusedSimpArgs false
set_option linter.unusedVariables false
set_option linter.unusedVariables false
open Go.RowKit

theorem max_if (a b : Int) : (if a < b then b else a) = max a b := by split <;> omega
def lmaxTo (xs : List Int) : Nat → Int
  | 0 => ix xs 0
  | k + 1 => max (lmaxTo xs k) (ix xs (k + 1))
def lmax (xs : List Int) : Int := lmaxTo xs (xs.length - 1)
theorem lmaxTo_ge (xs : List Int) (k : Nat) : ∀ j, j ≤ k → ix xs j ≤ lmaxTo xs k := by
  induction k with
  | zero => intro j hj; obtain rfl : j = 0 := by omega
            exact Int.le_refl _
  | succ k ih =>
    intro j hj
    simp only [lmaxTo]
    by_cases e : j = k + 1
    · subst e; omega
    · have := ih j (by omega); omega
theorem lmaxTo_mem (xs : List Int) (k : Nat) (hk : k < xs.length) : lmaxTo xs k ∈ xs := by
  induction k with
  | zero => exact ix_mem hk
  | succ k ih =>
    simp only [lmaxTo]
    rcases Int.le_total (lmaxTo xs k) (ix xs (k + 1)) with h | h
    · rw [Int.max_eq_right h]; exact ix_mem hk
    · rw [Int.max_eq_left h]; exact ih (by omega)

theorem max_any (A : Option Addr) (n c : Nat) (xs : List Int) (w : World) (h : IntsAt w A n xs) (hn : n ≤ 1048576) (h0 : 0 < n) :
    Calls Tryz.prog 102 #[.slice A n c] w fun e w' => e = .returned (.int .i64 (lmax xs)) ∧ w = w' := by
  obtain rfl := h.len
  obtain ⟨b, o, rfl, _, hc⟩ := h.at_ h0
  have hc0 := hc 0 h0
  rw [Nat.add_zero] at hc0
  have HC := Lib.hid hc
  clear hc
  unfold lmax
  go_enter Tryz.func102, Tryz.ntmps102
  go_wp2
  go_loop [3, 4] (fun m i => ∃ k : Nat, k < xs.length ∧ i = .int .i64 (k + 1) ∧ m = .int .i64 (lmaxTo xs k)) (fun _ i => xs.length - (intOf i).toNat)
  case atStart => exact ⟨0, h0, rfl, rfl⟩
  case round =>
    obtain ⟨k, hk, rfl, rfl⟩ := hrel
    by_cases hlt : k + 1 < xs.length
    · have hck := HC.out (k + 1) hlt
      have HE : Hid (lmaxTo xs (k + 1) = max (lmaxTo xs k) (ix xs (k + 1))) := rfl
      go_wp2
      go_round
      case rel => exact ⟨k + 1, by omega, by go_num, by rw [HE.out, ← max_if]⟩
      case measure => simp [intOf]; omega
    · have e : xs.length - 1 = k := by omega
      have HE := Lib.hid e
      clear e
      go_wp2
      go_ret
      exact ⟨ret_i (by rw [HE.out]), rfl⟩

/-- from one to six counts, each up to a million, not all 0 -/
def countsOk (xs : List Int) : Bool := inB xs.length 1 6 && xs.all (inB · 0 1000000) && decide (0 < lsum xs)
theorem lsum_pos {xs : List Int} (h : ∀ x ∈ xs, 0 ≤ x) : 0 < lsum xs ↔ ∃ x ∈ xs, 0 < x := by
  induction xs with
  | nil => simp [lsum]
  | cons y r ih =>
    have h1 := h y (by simp)
    have ih' := ih fun x hx => h x (by simp [hx])
    have h2 : 0 ≤ lsum r := by
      have : ∀ l : List Int, (∀ x ∈ l, 0 ≤ x) → 0 ≤ lsum l := fun l => by
        induction l with
        | nil => simp [lsum]
        | cons z l ih => intro hl; have := ih fun x hx => hl x (by simp [hx]); have := hl z (by simp); simp only [lsum]; omega
      exact this r fun x hx => h x (by simp [hx])
    simp only [lsum, List.mem_cons]
    constructor
    · intro hs
      by_cases hy : 0 < y
      · exact ⟨y, .inl rfl, hy⟩
      · obtain ⟨x, hx, hp⟩ := ih'.1 (by omega)
        exact ⟨x, .inr hx, hp⟩
    · rintro ⟨x, rfl | hx, hp⟩
      · omega
      · have := ih'.2 ⟨x, hx, hp⟩; omega
theorem lmax_pos {xs : List Int} (h0 : 0 < xs.length) (h : ∀ x ∈ xs, 0 ≤ x) : decide (0 < lmax xs) = decide (0 < lsum xs) := by
  rw [decide_eq_decide, lsum_pos h]
  constructor
  · exact fun hp => ⟨_, lmaxTo_mem xs _ (by omega), hp⟩
  · rintro ⟨x, hx, hp⟩
    obtain ⟨j, hj, rfl⟩ := List.getElem_of_mem hx
    have := lmaxTo_ge xs (xs.length - 1) j (by omega)
    rw [ix_lt hj] at this
    unfold lmax
    omega
theorem countsOk_facts {xs : List Int} (h : countsOk xs = true) : 1 ≤ xs.length ∧ xs.length ≤ 6 ∧ (∀ x ∈ xs, 0 ≤ x ∧ x ≤ 1000000) ∧ 1 ≤ lsum xs ∧ lsum xs ≤ 6000000 := by
  unfold countsOk at h
  rw [Bool.and_eq_true, Bool.and_eq_true, inB_iff, List.all_eq_true, decide_eq_true_eq] at h
  have h1 : ∀ x ∈ xs, 0 ≤ x ∧ x ≤ 1000000 := fun x hx => inB_iff.1 (h.1.2 x hx)
  have h2 := lsum_bd xs 1000000 h1
  have h3 : (xs.length : Int) * 1000000 ≤ 6 * 1000000 := by omega
  exact ⟨by omega, by omega, h1, by omega, by omega⟩

end Go.Proofs.YtaanppihgldeaaaGreatDoor
namespace Go.Proofs.YtaanppihgldeaaaGreatDoor
set_option linter.unusedSimpArgs false
set_option linter.unusedVariables false
set_option linter.unusedVariables false
open Go.RowKit

theorem ix_setP {xs : List Int} {j i : Nat} {v : Int} (hj : j < xs.length) : ix (xs.set j v) i = if i = j then v else ix xs i := by
  by_cases hi : i < xs.length
  · rw [ix_lt (by simpa using hi), List.getElem_set, ix_lt hi]
    by_cases e : j = i
    · subst e; simp
    · rw [if_neg e, if_neg (fun h => e h.symm)]
  · rw [ix_ge (by simp; omega), ix_ge (by omega), if_neg (by omega)]
/-- no number is greater than the one ahead of it -/
def descB (ws : List Int) : Bool := allN (fun j => decide (ix ws (j + 1) ≤ ix ws j)) (ws.length - 1)
def weightsOk (m : Int) (ws : List Int) : Bool := inB m 1 5 && decide ((ws.length : Int) = m) && ws.all (inB · 0 100) && descB ws
theorem descB_false {ws : List Int} {j : Nat} (h : j + 1 < ws.length) (hl : ix ws j < ix ws (j + 1)) : descB ws = false := allN_false (show j < ws.length - 1 by omega) (decide_eq_false (by omega))
theorem descB_true {ws : List Int} (h : ∀ j, j + 1 < ws.length → ix ws (j + 1) ≤ ix ws j) : descB ws = true := allN_iff.2 fun j hj => decide_eq_true (h j (by omega))
theorem weightsCmp (a b : Int) (W : World) (ha : 0 ≤ a ∧ a ≤ 100) (hb : 0 ≤ b ∧ b ≤ 100) :
    Calls Tryz.prog 204 #[.int .i64 a, .int .i64 b] W fun e W' => e = .returned (.int .i64 (b - a)) ∧ W' = W := by
  go_enter Tryz.func204, Tryz.ntmps204
  go_wp2
  go_ret
  exact ⟨rfl, rfl⟩
set_option maxHeartbeats 400000 in
theorem isSorted_any (A : Option Addr) (n c : Nat) (ws : List Int) (w : World) (h : IntsAt w A n ws) (hn : n ≤ 1048576) (hr : ∀ x ∈ ws, 0 ≤ x ∧ x ≤ 100) :
    Calls Tryz.prog 203 #[.slice A n c, .func (.func 204) #[] #[]] w fun e w' => e = .returned (.bool (descB ws)) ∧ Below w.heap.size w w' := by
  obtain rfl := h.len
  have HR := Lib.hid (fun i (hi : i < ws.length) => hr _ (ix_mem hi))
  clear hr
  go_enter Tryz.func203, Tryz.ntmps203
  go_wp2
  go_loopw [5] (fun i wr => ∃ k : Int, k < ws.length ∧ i = .int .i64 k ∧ -1 ≤ k ∧ (∀ j : Nat, k ≤ j → j + 1 < ws.length → ix ws (j + 1) ≤ ix ws j) ∧ Below w.heap.size w wr) (fun i _ => (intOf i).toNat)
  case atStart => exact ⟨(ws.length : Int) - 1, by omega, rfl, by omega, fun j h1 h2 => by omega, Below.refl _ _⟩
  case round =>
    obtain ⟨k, hk, rfl, hk1, hd, hb⟩ := hrel
    have HD := Lib.hid hd
    clear hd
    by_cases hlt : 0 < k
    · obtain ⟨i, rfl⟩ : ∃ i : Nat, k = (i : Int) + 1 := ⟨(k - 1).toNat, by omega⟩
      obtain ⟨b, o, rfl, _, hc⟩ := (h.below hb).at_ (show 0 < ws.length by omega)
      have d1 := hc (i + 1) (by omega)
      have d2 := hc i (by omega)
      have r1 := HR.out (i + 1) (by omega)
      have r2 := HR.out i (by omega)
      clear hc
      have i1 : ((i : Int) + 1).toNat = i + 1 := by omega
      have ew : IntKind.i64.wrap ((i : Int) + 1 - 1) = (i : Int) := by rw [IntWalk.i64_in _ (by omega)]; omega
      have K1 := Lib.hid (fun n => Calls.quiet_of_same (n := n) (weightsCmp (ix ws (i + 1)) (ix ws i) (wr.drewN n) r1 r2))
      by_cases hle : ix ws (i + 1) ≤ ix ws i
      · generalize hx : ix ws (i + 1) = x at *
        generalize hy : ix ws i = y at *
        have HX := Lib.hid hx
        have HY := Lib.hid hy
        clear hx hy
        have t0 : ((y - x : Int) < 0) = False := by simp; omega
        go_wp2
        go_quiet ((with_reducible exact K1.out _))
        go_wp2
        go_roundw
        case rel => exact ⟨(i : Int), by omega, by go_num, by omega, fun j h1 h2 => by
            by_cases e : j = i
            · subst e; rw [HX.out, HY.out]; exact hle
            · exact HD.out j (by omega) h2, hb.trans (below_of_drewN rfl)⟩
        case measure => simp [intOf]
      · have HF := Lib.hid (descB_false (ws := ws) (j := i) (by omega) (by omega))
        generalize ix ws (i + 1) = x at *
        generalize ix ws i = y at *
        have t0 : y - x < 0 := by omega
        go_wp2
        go_quiet ((with_reducible exact K1.out _))
        go_wp2
        go_ret
        exact ⟨ret_b HF.out.symm, hb.trans (below_of_drewN rfl)⟩
    · have HF := Lib.hid (descB_true (ws := ws) fun j hj => HD.out j (by omega) hj)
      go_wp2
      go_ret
      exact ⟨ret_b HF.out.symm, hb⟩
theorem implWeightsOk (m : Int) (A : Option Addr) (n c : Nat) (ws : List Int) (w : World) (h : IntsAt w A n ws) (hn : n ≤ 1048576) :
    Calls Tryz.prog 161 #[.int .i64 m, .slice A n c] w fun e w' => e = .returned (.bool (weightsOk m ws)) ∧ Below w.heap.size w w' := by
  obtain rfl := h.len
  unfold weightsOk
  cases hm : inB m 1 5
  · go_enter Tryz.func161, Tryz.ntmps161
    go_wp2_with fail
    (with_reducible refine (within_any _ _ _ _).mono ?_)
    rintro e w1 ⟨rfl, rfl⟩
    rw [hm]
    go_wp2_with fail
    go_ret
    exact ⟨by simp, Below.refl _ _⟩
  by_cases hl : (ws.length : Int) = m
  case neg =>
    rw [decide_eq_false hl]
    go_enter Tryz.func161, Tryz.ntmps161
    go_wp2_with fail
    (with_reducible refine (within_any _ _ _ _).mono ?_)
    rintro e w1 ⟨rfl, rfl⟩
    rw [hm]
    go_wp2_with fail
    go_ret
    exact ⟨by simp, Below.refl _ _⟩
  subst hl
  have K := Lib.hid (allWithin_any A ws.length c ws 0 100 w h (by omega))
  have hB := Below.refl w.heap.size w
  cases ha : ws.all (inB · 0 100)
  · rw [ha] at K
    go_enter Tryz.func161, Tryz.ntmps161
    go_wp2_with fail
    (with_reducible refine (within_any _ _ _ _).mono ?_)
    rintro e w1 ⟨rfl, rfl⟩
    rw [hm]
    go_wp2_with fail
    (with_reducible refine (K.out).mono ?_)
    rintro e w2 ⟨rfl, b2⟩
    replace hB := hB.trans (b2.mono hB.size)
    clear b2
    go_wp2_with fail
    go_ret
    exact ⟨by simp, hB⟩
  rw [ha] at K
  have hr : ∀ x ∈ ws, 0 ≤ x ∧ x ≤ 100 := fun x hx => inB_iff.1 (List.all_eq_true.1 ha x hx)
  have K2 := Lib.hid (fun W hW => isSorted_any A ws.length c ws W hW hn hr)
  clear ha hr
  generalize descB ws = q at *
  go_enter Tryz.func161, Tryz.ntmps161
  go_wp2_with fail
  (with_reducible refine (within_any _ _ _ _).mono ?_)
  rintro e w1 ⟨rfl, rfl⟩
  rw [hm]
  go_wp2_with fail
  (with_reducible refine (K.out).mono ?_)
  rintro e w2 ⟨rfl, b2⟩
  replace h := h.below b2
  replace hB := hB.trans (b2.mono hB.size)
  clear b2
  go_wp2_with fail
  (with_reducible refine (K2.out _ h).mono ?_)
  rintro e w3 ⟨rfl, b3⟩
  replace hB := hB.trans (b3.mono hB.size)
  clear b3
  go_wp2_with fail
  go_ret
  exact ⟨by simp, hB⟩
/-- the scores xs and c times the weights of the first j places of r -/
def scV (c : Int) (r ws xs : List Int) : Nat → List Int
  | 0 => xs
  | j + 1 => (scV c r ws xs j).set (ix r j).toNat (ix (scV c r ws xs j) (ix r j).toNat + c * ix ws j)
/-- the scores after k votes -/
def scTo (vs : List Vt) (ws : List Int) (M : Nat) : Nat → List Int
  | 0 => List.replicate M 0
  | k + 1 => scV (vx vs k).c (vx vs k).r ws (scTo vs ws M k) (vx vs k).r.length
def scores (m : Int) (vs : List Vt) (ws : List Int) : List Int := scTo vs ws m.toNat vs.length
theorem scV_len (c : Int) (r ws xs : List Int) : ∀ j, (scV c r ws xs j).length = xs.length
  | 0 => rfl
  | j + 1 => by rw [scV, List.length_set, scV_len c r ws xs j]
theorem scTo_len (vs : List Vt) (ws : List Int) (M : Nat) : ∀ k, (scTo vs ws M k).length = M
  | 0 => by simp [scTo]
  | k + 1 => by rw [scTo, scV_len, scTo_len vs ws M k]
theorem scores_len (m : Int) (vs : List Vt) (ws : List Int) : (scores m vs ws).length = m.toNat := scTo_len _ _ _ _
theorem prod_100 {a b : Int} (ha : 0 ≤ a ∧ a ≤ 1000) (hb : 0 ≤ b ∧ b ≤ 100) : 0 ≤ a * b ∧ a * b ≤ 100000 := by
  refine ⟨Int.mul_nonneg ha.1 hb.1, ?_⟩
  have := Int.mul_le_mul ha.2 hb.2 hb.1 (by omega)
  omega
theorem scV_bd {c B : Int} {r ws xs : List Int} (hc : 0 ≤ c ∧ c ≤ 1000) (hw : ∀ j, 0 ≤ ix ws j ∧ ix ws j ≤ 100) (hr : ∀ j, j < r.length → 0 ≤ ix r j ∧ ix r j < xs.length) (hx : ∀ i, 0 ≤ ix xs i ∧ ix xs i ≤ B) :
    ∀ j, j ≤ r.length → ∀ i, 0 ≤ ix (scV c r ws xs j) i ∧ ix (scV c r ws xs j) i ≤ B + 100000 * j
  | 0, _, i => by have := hx i; rw [scV]; omega
  | j + 1, h, i => by
    have ih := scV_bd hc hw hr hx j (by omega)
    have hj := hr j (by omega)
    have hp := prod_100 hc (hw j)
    rw [scV, ix_setP (by rw [scV_len]; omega)]
    have := ih i
    have := ih (ix r j).toNat
    split <;> omega
theorem scTo_bd {m : Int} {vs : List Vt} (F : PF m vs) {ws : List Int} (hw : ∀ j, 0 ≤ ix ws j ∧ ix ws j ≤ 100) : ∀ k, k ≤ vs.length → ∀ i, 0 ≤ ix (scTo vs ws m.toNat k) i ∧ ix (scTo vs ws m.toNat k) i ≤ 500000 * k
  | 0, _, i => by
    rw [scTo]
    by_cases h : i < m.toNat
    · rw [ix_lt (by simpa using h)]; simp
    · rw [ix_ge (by simpa using h)]; simp
  | k + 1, h, i => by
    have ih := scTo_bd F hw k (by omega)
    have hv := vx_mem (vs := vs) (j := k) (by omega)
    have f := rankOk_facts (F.r _ hv)
    have l := F.l _ hv
    have := scV_bd (F.c _ hv) hw (xs := scTo vs ws m.toNat k) (r := (vx vs k).r) (fun j hj => by have := f.2.2.2 j hj; rw [scTo_len]; omega) ih _ (Nat.le_refl _) i
    have m5 := F.m5
    rw [scTo]
    omega
theorem weights_bd {m : Int} {ws : List Int} (h : weightsOk m ws = true) : (ws.length : Int) = m ∧ ∀ j, 0 ≤ ix ws j ∧ ix ws j ≤ 100 := by
  unfold weightsOk at h
  rw [Bool.and_eq_true, Bool.and_eq_true, Bool.and_eq_true, decide_eq_true_eq, List.all_eq_true] at h
  refine ⟨h.1.1.2, fun j => ?_⟩
  by_cases hj : j < ws.length
  · exact inB_iff.1 (h.1.2 _ (ix_mem hj))
  · rw [ix_ge (by omega)]; omega
def scoresR (m : Int) (vs : List Vt) (ws : List Int) : List Int := if profOk m vs && weightsOk m ws then scores m vs ws else []
set_option maxRecDepth 100000 in
set_option maxHeartbeats 1000000 in
theorem implScoresOf (m : Int) (A : Option Addr) (n c : Nat) (vs : List Vt) (B : Option Addr) (l d : Nat) (ws : List Int) (w : World) (h : VotesAt w A n vs) (hn : n ≤ 1048576) (hx : ∀ v ∈ vs, v.r.length ≤ 1048576) (q : IntsAt w B l ws) (hl : l ≤ 1048576) :
    Calls Tryz.prog 97 #[.agg #[.int .i64 m, .slice A n c], .slice B l d] w fun e w' => ∃ A' c', e = .returned (.slice A' (scoresR m vs ws).length c') ∧ OwnI w' w.heap.size w'.heap.size (.slice A' (scoresR m vs ws).length c') (scoresR m vs ws) ∧ Below w.heap.size w w' := by
  have q0 := q.below (alloc_below w (.cells #[.int .i64 m, .slice A n c] 24))
  obtain rfl := q.len
  clear q
  obtain rfl := h.len
  have hB := alloc_below w (.cells #[.int .i64 m, .slice A vs.length c] 24)
  obtain ⟨x0, x1⟩ := PBox.new w m A vs.length c 24 rfl
  replace h := h.below hB
  generalize hw0 : w.alloc (.cells #[.int .i64 m, .slice A vs.length c] 24) = w0 at *
  have K := Lib.hid (implProfileOk m A vs.length c vs _ h hn hx)
  have K2 := Lib.hid (fun W hW => implWeightsOk m B ws.length d ws W hW hl)
  unfold scoresR
  clear hx
  cases hp : profOk m vs
  · rw [hp] at K
    simp only [Bool.false_eq_true, if_false, List.length_nil, Bool.false_and]
    go_enter Tryz.func97, Tryz.ntmps97
    go_wp2_with fail
    (with_reducible refine (K.out).mono ?_)
    rintro e w1 ⟨rfl, b1⟩
    replace hB := hB.trans (b1.mono hB.size)
    clear b1
    go_wp2
    go_ret
    exact ⟨_, _, rfl, OwnI.nil _ _ _, hB⟩
  rw [hp] at K
  cases hw : weightsOk m ws
  · rw [hw] at K2
    simp only [Bool.false_eq_true, if_false, List.length_nil, Bool.and_false]
    go_enter Tryz.func97, Tryz.ntmps97
    go_wp2_with fail
    (with_reducible refine (K.out).mono ?_)
    rintro e w1 ⟨rfl, b1⟩
    replace x0 := cell_carry b1 x0
    replace q0 := q0.below b1
    replace hB := hB.trans (b1.mono hB.size)
    clear b1
    go_wp2_with fail
    (with_reducible refine (K2.out _ q0).mono ?_)
    rintro e w2 ⟨rfl, b2⟩
    replace hB := hB.trans (b2.mono hB.size)
    clear b2
    go_wp2
    go_ret
    exact ⟨_, _, rfl, OwnI.nil _ _ _, hB⟩
  rw [hw] at K2
  have F := Lib.hid (pf_of hp)
  have W1 := Lib.hid (weights_bd hw)
  have BD := Lib.hid (scTo_bd F.out W1.out.2)
  simp only [Bool.and_self, if_true]
  obtain ⟨M, rfl⟩ : ∃ M : Nat, m = (M : Int) := ⟨m.toNat, by have := F.out.m1; omega⟩
  have M5 : M ≤ 5 := by have := F.out.m5; omega
  have LT := Lib.hid (fun k => scTo_len vs ws M k)
  unfold scores
  rw [Int.toNat_natCast] at *
  rw [LT.out]
  go_enter Tryz.func97, Tryz.ntmps97
  go_wp2_with fail
  (with_reducible refine (K.out).mono ?_)
  rintro e w1 ⟨rfl, b1⟩
  replace x0 := cell_carry b1 x0
  replace x1 := cell_carry b1 x1
  replace q0 := q0.below b1
  replace h := h.below b1
  replace hB := hB.trans (b1.mono hB.size)
  clear b1
  go_wp2_with fail
  (with_reducible refine (K2.out _ q0).mono ?_)
  rintro e w2 ⟨rfl, b2⟩
  replace x0 := cell_carry b2 x0
  replace x1 := cell_carry b2 x1
  replace q0 := q0.below b2
  replace h := h.below b2
  replace hB := hB.trans (b2.mono hB.size)
  clear b2
  clear K K2
  go_wp2_with ((with_reducible refine wpList_make_ints _ rfl _ _ rfl M rfl rfl (by omega) ?_))
  intro w3 ho hb hs
  have z3 := hb.size
  have x1' := cell_carry hb x1
  have e0 : List.replicate M (0 : Int) = scTo vs ws M 0 := rfl
  rw [e0] at ho
  have z0 := hB.size
  have gs : w2.heap.size < w3.heap.size := by omega
  clear hs e0 hw0 LT x0
  go_wp2
  clear x1 x1'
  go_loopw [26] (fun i wr => ∃ k : Nat, k ≤ vs.length ∧ i = .int .i64 k ∧ OwnI wr w2.heap.size (w2.heap.size + 1) (.slice (some ⟨w2.heap.size, 0, none⟩) M M) (scTo vs ws M k) ∧ Below w2.heap.size w2 wr ∧ w2.heap.size < wr.heap.size) (fun i _ => vs.length - (intOf i).toNat)
  case atStart => exact ⟨0, Nat.zero_le _, rfl, ho, hb, gs⟩
  case round =>
    clear ho hb gs z3
    obtain ⟨wo, rfl⟩ : ∃ wo, wo = wr := ⟨_, rfl⟩
    obtain ⟨k, hk, rfl, hok, hbr, zr⟩ := hrel
    by_cases hlt : k < vs.length
    · obtain ⟨b, o, A', c', rfl, _, hc1, hc2, hcc, hin⟩ := h.at_ hlt
      replace hc1 := cell_carry hbr hc1
      replace hc2 := cell_carry hbr hc2
      have fr := rankOk_facts (F.out.r _ (vx_mem hlt))
      have fc := F.out.c _ (vx_mem hlt)
      have wl := W1.out.1
      have HBD := Lib.hid (BD.out k (by omega))
      have HS : Hid (scTo vs ws M (k + 1) = scV (vx vs k).c (vx vs k).r ws (scTo vs ws M k) (vx vs k).r.length) := rfl
      have XL := scTo_len vs ws M k
      generalize vx vs k = v at *
      generalize scTo vs ws M k = xs at *
      obtain ⟨_, _, vl, vb⟩ := fr
      have VB := Lib.hid vb
      clear vb
      have VBD := Lib.hid (fun j hj => scV_bd (c := v.c) (r := v.r) fc W1.out.2 (xs := xs) (fun j hj => by have := VB.out j hj; omega) HBD.out j hj)
      have XL1 := Nat.le_of_eq XL
      have XL2 := Nat.le_of_eq XL.symm
      have vl1 : v.r.length ≤ M := by omega
      have wl1 : M ≤ ws.length := by omega
      clear XL vl wl
      have b1 := alloc_below wo (.cells #[.slice A' v.r.length c', .int .i64 v.c] 44)
      obtain ⟨y0, y1⟩ := new_pair wo (.slice A' v.r.length c') (.int .i64 v.c) 44 rfl
      have ho4 := hok.alloc (.cells #[.slice A' v.r.length c', .int .i64 v.c] 44)
      have hb4 := hbr.trans (b1.mono hbr.size)
      have z4 : wo.heap.size < (wo.alloc (.cells #[.slice A' v.r.length c', .int .i64 v.c] 44)).heap.size := by simp
      generalize hw4 : wo.alloc (.cells #[.slice A' v.r.length c', .int .i64 v.c] 44) = w4 at *
      clear b1
      go_wp2
      clear hw4 hc1 hc2 y0
      go_loopw [33] (fun i wr => ∃ j : Nat, j ≤ v.r.length ∧ i = .int .i64 j ∧ OwnI wr w2.heap.size (w2.heap.size + 1) (.slice (some ⟨w2.heap.size, 0, none⟩) M M) (scV v.c v.r ws xs j) ∧ Only w2.heap.size (w2.heap.size + 1) w4 wr) (fun i _ => v.r.length - (intOf i).toNat)
      case atStart => exact ⟨0, Nat.zero_le _, rfl, ho4, Only.refl _ _ _⟩
      case round =>
        clear ho4
        obtain ⟨j, hj, rfl, hoj, hon⟩ := hrel
        by_cases hlj : j < v.r.length
        · have hb5 := hb4.trans (hon.toBelow (Nat.le_refl _) hb4.size)
          obtain ⟨br, orr, rfl, _, cr⟩ := hin.at_ hlj
          have d1 := cell_carry hb5 (cr j hlj)
          obtain ⟨bw, ow, rfl, _, cw⟩ := q0.at_ (show 0 < ws.length by omega)
          have d2 := cell_carry hb5 (cw j (by omega))
          have d3 := hon.cell y1 (by show ¬ (_ ≤ wo.heap.size ∧ wo.heap.size < _); omega)
          have va := VB.out j hlj
          have vx := VBD.out j (by omega) (ix v.r j).toNat
          have hw0 := W1.out.2 j
          have HS2 : Hid (scV v.c v.r ws xs (j + 1) = (scV v.c v.r ws xs j).set (ix v.r j).toNat (ix (scV v.c v.r ws xs j) (ix v.r j).toNat + v.c * ix ws j)) := rfl
          have pr := prod_100 fc hw0
          generalize scV v.c v.r ws xs j = cur at *
          generalize ix v.r j = a0 at *
          generalize ix ws j = wj at *
          obtain ⟨a, rfl⟩ : ∃ a : Nat, a0 = (a : Int) := ⟨a0.toNat, by omega⟩
          rw [Int.toNat_natCast] at *
          have d4 := hoj.cellAt a (by omega)
          have d5 := hoj.frozenAt a
          obtain ⟨ho6, hon6⟩ := hoj.stored a (ix cur a + v.c * wj)
          generalize ix cur a = y at *
          have ew : IntKind.i64.wrap (v.c * wj) = v.c * wj := IntWalk.i64_in _ (by omega)
          have ew2 : IntKind.i64.wrap (y + v.c * wj) = y + v.c * wj := IntWalk.i64_in _ (by omega)
          clear cr cw
          have i5 : j < ws.length := by omega
          have i6 : (j : Int) < (ws.length : Int) := by omega
          go_upto_region 10 with fail
          go_still_tail 13, (by kernel_rfl)
          change wpList _ _ _ _ _ wr.drew
          have d6 : wr.drew.frozen? _ = _ := d5
          clear d1 d2 d3 ew ew2
          go_wp2
          go_roundw
          case rel => exact ⟨j + 1, by omega, by go_num, by rw [HS2.out]; exact ho6, hon.trans (hon6.trans (Only.of_below (B := (wr.setCell ⟨w2.heap.size, a, none⟩ (.int .i64 (y + v.c * wj))).heap.size) ((Below.refl _ _).drew) (Nat.le_refl _)))⟩
          case measure => simp [intOf]; omega
        · obtain rfl : j = v.r.length := by omega
          rw [← HS.out] at hoj
          have hb5 := hb4.trans (hon.toBelow (Nat.le_refl _) hb4.size)
          have z5 := hon.size
          go_wp2
          go_roundw
          case rel => exact ⟨k + 1, by omega, by go_num, hoj, hb5, by omega⟩
          case measure => simp [intOf]; omega
    · obtain rfl : k = vs.length := by omega
      have hB5 := hB.trans (hbr.mono hB.size)
      go_wp2
      go_ret
      exact ⟨_, _, rfl, hok.mono z0 (by omega), hB5⟩
def greatTo (xs : List Int) : Nat → List Int
  | 0 => []
  | k + 1 => greatTo xs k ++ (if ix xs k = lmax xs then [(k : Int)] else [])
def greatest (xs : List Int) : List Int := greatTo xs xs.length
theorem greatTo_len (xs : List Int) : ∀ k, (greatTo xs k).length ≤ k
  | 0 => by simp [greatTo]
  | k + 1 => by have := greatTo_len xs k; rw [greatTo]; split <;> simp <;> omega
set_option maxHeartbeats 400000 in
theorem implGreatest (A : Option Addr) (n c : Nat) (xs : List Int) (w : World) (h : IntsAt w A n xs) (hn : n ≤ 1048576) :
    Calls Tryz.prog 59 #[.slice A n c] w fun e w' => ∃ A' c', e = .returned (.slice A' (greatest xs).length c') ∧ OwnI w' w.heap.size w'.heap.size (.slice A' (greatest xs).length c') (greatest xs) ∧ Below w.heap.size w w' := by
  obtain rfl := h.len
  have hg : greatest xs = greatTo xs xs.length := rfl
  generalize greatest xs = T at *
  go_enter Tryz.func59, Tryz.ntmps59
  go_wp2
  go_loopw [3, 8] (fun v i wr => ∃ (k : Nat) (A' : Option Addr) (c' : Nat), k ≤ xs.length ∧ i = .int .i64 k ∧ v = .slice A' (greatTo xs k).length c' ∧ OwnI wr w.heap.size wr.heap.size (.slice A' (greatTo xs k).length c') (greatTo xs k) ∧ Below w.heap.size w wr) (fun _ i _ => xs.length - (intOf i).toNat)
  case atStart => exact ⟨0, none, 0, Nat.zero_le _, rfl, rfl, OwnI.nil _ _ _, Below.refl _ _⟩
  case round =>
    obtain ⟨k, A1, c1, hk, rfl, rfl, ho, hb⟩ := hrel
    have hl := greatTo_len xs k
    have z := hb.size
    by_cases hlt : k < xs.length
    · have HS : Hid (greatTo xs (k + 1) = greatTo xs k ++ (if ix xs k = lmax xs then [(k : Int)] else [])) := rfl
      generalize greatTo xs k = ys at *
      have K := Lib.hid (max_any A xs.length c xs wr (h.below hb) hn (by omega))
      obtain ⟨b, o, rfl, _, hc⟩ := (h.below hb).at_ hlt
      have d := hc k hlt
      clear hc hg
      generalize ix xs k = x at *
      generalize lmax xs = y at *
      by_cases hxy : x = y
      · subst hxy
        go_wp2_with fail
        (with_reducible refine (K.out).mono ?_)
        rintro e w1 ⟨rfl, rfl⟩
        go_wp2_with (at_builtin; refine wpList_append_int _ rfl _ _ rfl (w.heap.size) _ (ys.length) _ _ _ rfl (ho.alloc _) ((k : Int)) _ 1 rfl (new_cell _ _ _ rfl) (by omega) (by simp; omega) (by simp; omega) ?_)
        intro A4 c4 w4 o4 on4
        replace hb := (hb.alloc z _).trans (on4.toBelow (Nat.le_refl _) (by simp; omega))
        go_wp2
        go_roundw
        case rel => exact ⟨k + 1, A4, c4, by omega, by go_num, by rw [HS.out]; simp, by rw [HS.out]; simpa using o4, hb⟩
        case measure => simp [intOf]; omega
      · have e : (x == y) = false := by rw [beq_eq_false_iff_ne]; exact hxy
        rw [if_neg hxy, List.append_nil] at HS
        clear hxy
        go_wp2_with fail
        (with_reducible refine (K.out).mono ?_)
        rintro e w1 ⟨rfl, rfl⟩
        go_wp2
        go_roundw
        case rel => exact ⟨k + 1, A1, c1, by omega, by go_num, by rw [HS.out], by rw [HS.out]; exact ho, hb⟩
        case measure => simp [intOf]; omega
    · obtain rfl : k = xs.length := by omega
      rw [← hg] at ho ⊢
      go_wp2
      go_ret
      exact ⟨_, _, rfl, ho, hb⟩
theorem scoresR_len {m : Int} {vs : List Vt} {ws : List Int} : (scoresR m vs ws).length ≤ 5 := by
  unfold scoresR
  cases hp : profOk m vs
  · simp
  · have := (pf_of hp).m5
    split
    · rw [scores_len]; omega
    · simp
theorem implScoreWinners (m : Int) (A : Option Addr) (n c : Nat) (vs : List Vt) (B : Option Addr) (l d : Nat) (ws : List Int) (w : World) (h : VotesAt w A n vs) (hn : n ≤ 1048576) (hx : ∀ v ∈ vs, v.r.length ≤ 1048576) (q : IntsAt w B l ws) (hl : l ≤ 1048576) :
    Calls Tryz.prog 55 #[.agg #[.int .i64 m, .slice A n c], .slice B l d] w fun e w' => ∃ A' c', e = .returned (.slice A' (greatest (scoresR m vs ws)).length c') ∧ OwnI w' w.heap.size w'.heap.size (.slice A' (greatest (scoresR m vs ws)).length c') (greatest (scoresR m vs ws)) ∧ Below w.heap.size w w' := by
  have q0 := q.below (alloc_below w (.cells #[.int .i64 m, .slice A n c] 24))
  obtain rfl := h.len
  have hB := alloc_below w (.cells #[.int .i64 m, .slice A vs.length c] 24)
  obtain ⟨x0, x1⟩ := PBox.new w m A vs.length c 24 rfl
  replace h := h.below hB
  generalize hw0 : w.alloc (.cells #[.int .i64 m, .slice A vs.length c] 24) = w0 at *
  have K := Lib.hid (implScoresOf m A vs.length c vs B l d ws _ h hn hx q0 hl)
  have sl := scoresR_len (m := m) (vs := vs) (ws := ws)
  clear hx q
  generalize scoresR m vs ws = ss at *
  go_enter Tryz.func55, Tryz.ntmps55
  go_wp2_with fail
  (with_reducible refine K.out.mono ?_)
  rintro e w1 ⟨A1, c1, rfl, o1, b1⟩
  replace hB := hB.trans (b1.mono hB.size)
  clear b1
  go_wp2_with fail
  (with_reducible refine (implGreatest A1 _ c1 ss _ o1.at_ (by omega)).mono ?_)
  rintro e w2 ⟨A2, c2, rfl, o2, b2⟩
  go_wp2
  go_ret
  exact ⟨_, _, rfl, o2.mono hB.size (Nat.le_refl _), hB.trans (b2.mono hB.size)⟩
end Go.Proofs.YtaanppihgldeaaaGreatDoor
namespace Go.Proofs.YtaanppihgldeaaaGreatDoor
set_option linter.unusedSimpArgs false
set_option linter.unusedVariables false
set_option linter.unusedVariables false
open Go.RowKit
section
variable {P : Program} {ops : Array Oper} {md : Region.Mode} {C : World → Prop}

/-- f operations of the head are still to come, in whatever order; L behind them -/
def headQ (P : Program) (md : Region.Mode) (ops : Array Oper) (C : World → Prop) (n : Nat) (L : Array Bool → Act → Prop) : Nat → Array Bool → Act → Prop
  | 0, d, a => L d a
  | f + 1, d, a => Region.ready md ops d ≠ [] ∧ ∀ i ∈ Region.ready md ops d, i < n ∧ qOp P ops C i (headQ P md ops C n L f (d.setIfInBounds i true)) a
theorem headQ_any {n g : Nat} {L : Array Bool → Act → Prop} {Q : Exit → Act → World → Prop} (hL : ∀ d a w, C w → L d a → wpAny P md ops Q g d a w) :
    ∀ f d a w, C w → headQ P md ops C n L f d a → wpAny P md ops Q (f + g) d a w := by
  intro f
  induction f with
  | zero => intro d a w hw h; simpa using hL d a w hw h
  | succ f ih =>
    intro d a w hw h
    rw [Nat.succ_add]
    exact ⟨fun e => absurd e h.1, fun i hi => wpOp_of_qOp hw (fun a' w' hw' => ih _ a' w' hw') (h.2 i hi).2⟩
theorem headQ_take {n i : Nat} {oi : Oper} {v : Value} {L : Array Bool → Act → Prop} (hi : ops[i]? = some oi) (hsel : ∀ (j : Nat) (o : Oper) cs b, ops[j]? = some o → o.op ≠ .select cs b)
    (hs : Region.sinkB md ops n = true) (hc : Region.chainB md ops n = true) (hn : n < ops.size) (hin : i < n) (hdone : ∀ d a, L d a → ∀ j ∈ Region.ready md ops d, n ≤ j) :
    ∀ f d a, HeadInv md ops n d → (∀ j oj, ops[j]? = some oj → j ≠ i → d.getD j true = false → (∀ e ∈ oj.after, Region.binds md e = true → e.on ≠ i) → oi.apart ops oj = true) →
      i ∈ Region.ready md ops d → YieldsIn P ops C oi v a → headQ P md ops C n L f (d.setIfInBounds i true) (a.put oi.dst v) → headQ P md ops C n L (f + 1) d a := by
  intro f
  induction f with
  | zero =>
    intro d a inv _ hr hy H
    refine ⟨List.ne_nil_of_mem hr, fun j hj => ?_⟩
    have hjn : j < n := Nat.lt_of_not_le fun h => tail_waits hs hc hn inv _ i rfl hin (mem_ready.1 hr).1 j h hj
    by_cases e : j = i
    · subst e; exact ⟨hjn, hy.qOp hi H⟩
    · exact absurd (hdone _ _ H j (ready_mono hj e)) (by omega)
  | succ f ih =>
    intro d a inv hfree hr hy H
    refine ⟨List.ne_nil_of_mem hr, fun j hj => ?_⟩
    have hjn : j < n := Nat.lt_of_not_le fun h => tail_waits hs hc hn inv _ i rfl hin (mem_ready.1 hr).1 j h hj
    by_cases e : j = i
    · subst e; exact ⟨hjn, hy.qOp hi H⟩
    obtain ⟨hjd, oj, hoj, hall⟩ := mem_ready.1 hj
    have hnot : ∀ x ∈ oj.after, Region.binds md x = true → x.on ≠ i := fun x hx hb hon => by
      have h1 := hall x hx hb
      rw [hon, getD_both (mem_ready.1 hr).1] at h1
      cases h1
    refine ⟨hjn, qOp_mono (fun a' h3 => ih (d.setIfInBounds j true) a' (inv.set hj hjn) (fun k ok hk hki hun hno => ?_) (ready_mono hr (Ne.symm e)) h3.1 ?_)
      (qOp_put hoj (hfree j oj hoj e hjd hnot) (fun cs b => hsel i oi cs b hi) (fun cs b => hsel j oj cs b hoj) hy (H.2 j (ready_mono hj e)).2)⟩
    · refine hfree k ok hk hki ?_ hno
      by_cases hjk : j = k
      · subst hjk; exact hjd
      · rwa [getD_set_ne true hjk] at hun
    · rw [Array.setIfInBounds_comm _ _ e]; exact h3.2
theorem headQ_lex {n g : Nat} {K : Act → Prop} (hsel : Region.noSelect ops = true) (hs : Region.sinkB md ops n = true) (hc : Region.chainB md ops n = true) (hn : n < ops.size) :
    ∀ (l : List Oper) (k : Nat) (d : Array Bool) (a : Act), (∀ j, j < l.length → l[j]? = ops[k + j]?) → k + l.length = n → HeadInv md ops n d → Region.lexHead md ops g l.length k d = true → wpQuiet P ops C K l a →
    headQ P md ops C n (fun d' a' => Region.seqB md ops g n d' = true ∧ K a') l.length d a := by
  intro l
  induction l with
  | nil =>
    intro k d a _ hk _ hB h
    obtain rfl : k = n := by simpa using hk
    exact ⟨by simpa [Region.lexHead] using hB, h⟩
  | cons o l ih =>
    intro k d a hl hk inv hB h
    have h0 : ops[k]? = some o := by simpa using (hl 0 (by simp)).symm
    simp only [List.length_cons, Region.lexHead, Bool.and_eq_true] at hB
    have hkn : k < n := by simp only [List.length_cons] at hk; omega
    have hr : k ∈ Region.ready md ops d := by simpa using hB.1.1
    obtain ⟨v, hy, hK⟩ := yieldsIn_of_qOp h0 (show qOp P ops C k (wpQuiet P ops C K l) a by unfold qOp; simp only [h0]; exact h)
    exact headQ_take h0 (Region.noSelect_spec hsel) hs hc hn hkn (fun d' a' hL => seqB_ready hL.1) l.length d a inv (Region.free_spec h0 hB.1.2) hr hy
      (ih (k + 1) _ _ (fun j hj => by have := hl (j + 1) (by simp; omega); simpa [Nat.add_assoc, Nat.add_comm 1 j] using this) (by simp only [List.length_cons] at hk; omega) (inv.set hr hkn) hB.2 hK)
theorem wp_region_quiet_tail {id : Nat} {Q : Exit → Act → World → Prop} {a : Act} {w : World} {l : List Oper} (n : Nat) (hm : P.follows .mixedOrders = true) (hB : Region.lexTailB .any l.toArray n = true) (hC : C w.drew)
    (h : wpQuiet P l.toArray C (fun a' => ∀ w', C w' → wpList P l.toArray Q (l.drop n) a' w') (l.take n) a) : (Code.region id l.toArray true).wp P Q a w := by
  simp only [Region.lexTailB, Bool.and_eq_true, decide_eq_true_eq] at hB
  obtain ⟨⟨⟨⟨hsel, hn⟩, hs⟩, hc⟩, hlex⟩ := hB
  have hn' : n < l.length := by simpa using hn
  have htl : (l.take n).length = n := by simp; omega
  have H := headQ_lex (md := .any) (g := l.toArray.size - n) hsel hs hc hn (l.take n) 0 (Array.replicate l.toArray.size false) a (fun j hj => by
      have hj' : j < n := by rw [htl] at hj; exact hj
      simp [hj']) (by simpa using htl)
    ⟨by simp, fun j oj _ hl => (by rw [getD_replicate_false] at hl; cases hl), fun t _ ht => getD_in (by simpa using ht) (getD_replicate_false _ _)⟩ (by rw [htl]; exact hlex) h
  refine wp_region_any hm ?_
  have R := headQ_any (Q := Q) (g := l.toArray.size - n) (fun d a' w' hw' hL => by
    have := wpAny_of_seq (md := .any) (Q' := Q) (l.drop n) n d a' w' (fun j => by simp [List.getElem?_drop]) (by simpa using hL.1) (hL.2 w' hw')
    simpa using this) _ _ _ _ (show C { w with drawn := w.drawn + 1 } from hC) H
  rw [htl, show n + (l.toArray.size - n) = l.toArray.size by omega] at R
  exact R
end
theorem wp_region_later_tail {P : Program} {id : Nat} {Q : Exit → Act → World → Prop} {a : Act} {w : World} {l : List Oper} (n : Nat) (hm : P.follows .mixedOrders = true) (hB : Region.lexTailB .any l.toArray n = true)
    (h : wpQuiet P l.toArray (fun w' => ∃ L : Later w, w' = L.W) (fun a' => ∀ w', (∃ L : Later w, w' = L.W) → wpList P l.toArray Q (l.drop n) a' w') (l.take n) a) : (Code.region id l.toArray true).wp P Q a w :=
  wp_region_quiet_tail (C := fun w' => ∃ L : Later w, w' = L.W) n hm hB ⟨⟨w.drew, (Below.refl _ _).drew⟩, rfl⟩ h
end Go.Proofs.YtaanppihgldeaaaGreatDoor
