/- Counts of votes: the check, and quotas. -/
import Derived.Test.YtoajmckhfnaifaaClosures
import Derived.Test.YtoajmckhfnaifaaSums
namespace Go.Proofs.Ytoajmckhfnaifaa
set_option linter.unusedVariables false
open Go.RowKit

theorem max_if (a b : Int) : (if a < b then b else a) = max a b := by split <;> omega
def lmaxTo (xs : List Int) : Nat → Int
  | 0 => ix xs 0
  | k + 1 => max (lmaxTo xs k) (ix xs (k + 1))
def lmax (xs : List Int) : Int := lmaxTo xs (xs.length - 1)
theorem lmaxTo_ge (xs : List Int) (k : Nat) : ∀ j, j ≤ k → ix xs j ≤ lmaxTo xs k := by
  induction k with
  | zero => intro j hj; obtain rfl : j = 0 := by omega
            exact Int.le_refl _
  | succ k ih =>
    intro j hj
    simp only [lmaxTo]
    by_cases e : j = k + 1
    · subst e; omega
    · have := ih j (by omega); omega
theorem lmaxTo_mem (xs : List Int) (k : Nat) (hk : k < xs.length) : lmaxTo xs k ∈ xs := by
  induction k with
  | zero => exact ix_mem hk
  | succ k ih =>
    simp only [lmaxTo]
    rcases Int.le_total (lmaxTo xs k) (ix xs (k + 1)) with h | h
    · rw [Int.max_eq_right h]; exact ix_mem hk
    · rw [Int.max_eq_left h]; exact ih (by omega)

theorem max_any (A : Option Addr) (n c : Nat) (xs : List Int) (w : World) (h : IntsAt w A n xs) (hn : n ≤ 1048576) (h0 : 0 < n) :
    Calls Try.prog 44 #[.slice A n c] w fun e w' => e = .returned (.int .i64 (lmax xs)) ∧ w = w' := by
  obtain rfl := h.len
  obtain ⟨b, o, rfl, _, hc⟩ := h.at_ h0
  have hc0 := hc 0 h0
  rw [Nat.add_zero] at hc0
  have HC := Lib.hid hc
  clear hc
  unfold lmax
  go_enter Try.func44, Try.ntmps44
  go_wp2
  go_loop [3, 4] (fun m i => ∃ k : Nat, k < xs.length ∧ i = .int .i64 (k + 1) ∧ m = .int .i64 (lmaxTo xs k)) (fun _ i => xs.length - (intOf i).toNat)
  case atStart => exact ⟨0, h0, rfl, rfl⟩
  case round =>
    obtain ⟨k, hk, rfl, rfl⟩ := hrel
    by_cases hlt : k + 1 < xs.length
    · have hck := HC.out (k + 1) hlt
      have HE : Hid (lmaxTo xs (k + 1) = max (lmaxTo xs k) (ix xs (k + 1))) := rfl
      go_wp2
      go_round
      case rel => exact ⟨k + 1, by omega, by go_num, by rw [HE.out, ← max_if]⟩
      case measure => simp [intOf]; omega
    · have e : xs.length - 1 = k := by omega
      have HE := Lib.hid e
      clear e
      go_wp2
      go_ret
      exact ⟨ret_i (by rw [HE.out]), rfl⟩

/-- from one to six counts, each up to a million, not all 0 -/
def countsOk (xs : List Int) : Bool := inB xs.length 1 6 && xs.all (inB · 0 1000000) && decide (0 < lsum xs)
theorem lsum_pos {xs : List Int} (h : ∀ x ∈ xs, 0 ≤ x) : 0 < lsum xs ↔ ∃ x ∈ xs, 0 < x := by
  induction xs with
  | nil => simp [lsum]
  | cons y r ih =>
    have h1 := h y (by simp)
    have ih' := ih fun x hx => h x (by simp [hx])
    have h2 : 0 ≤ lsum r := by
      have : ∀ l : List Int, (∀ x ∈ l, 0 ≤ x) → 0 ≤ lsum l := fun l => by
        induction l with
        | nil => simp [lsum]
        | cons z l ih => intro hl; have := ih fun x hx => hl x (by simp [hx]); have := hl z (by simp); simp only [lsum]; omega
      exact this r fun x hx => h x (by simp [hx])
    simp only [lsum, List.mem_cons]
    constructor
    · intro hs
      by_cases hy : 0 < y
      · exact ⟨y, .inl rfl, hy⟩
      · obtain ⟨x, hx, hp⟩ := ih'.1 (by omega)
        exact ⟨x, .inr hx, hp⟩
    · rintro ⟨x, rfl | hx, hp⟩
      · omega
      · have := ih'.2 ⟨x, hx, hp⟩; omega
theorem lmax_pos {xs : List Int} (h0 : 0 < xs.length) (h : ∀ x ∈ xs, 0 ≤ x) : decide (0 < lmax xs) = decide (0 < lsum xs) := by
  rw [decide_eq_decide, lsum_pos h]
  constructor
  · exact fun hp => ⟨_, lmaxTo_mem xs _ (by omega), hp⟩
  · rintro ⟨x, hx, hp⟩
    obtain ⟨j, hj, rfl⟩ := List.getElem_of_mem hx
    have := lmaxTo_ge xs (xs.length - 1) j (by omega)
    rw [ix_lt hj] at this
    unfold lmax
    omega
theorem countsOk_facts {xs : List Int} (h : countsOk xs = true) : 1 ≤ xs.length ∧ xs.length ≤ 6 ∧ (∀ x ∈ xs, 0 ≤ x ∧ x ≤ 1000000) ∧ 1 ≤ lsum xs ∧ lsum xs ≤ 6000000 := by
  unfold countsOk at h
  rw [Bool.and_eq_true, Bool.and_eq_true, inB_iff, List.all_eq_true, decide_eq_true_eq] at h
  have h1 : ∀ x ∈ xs, 0 ≤ x ∧ x ≤ 1000000 := fun x hx => inB_iff.1 (h.1.2 x hx)
  have h2 := lsum_bd xs 1000000 h1
  have h3 : (xs.length : Int) * 1000000 ≤ 6 * 1000000 := by omega
  exact ⟨by omega, by omega, h1, by omega, by omega⟩

set_option maxHeartbeats 400000 in
theorem implCountsOk (A : Option Addr) (n c : Nat) (xs : List Int) (w : World) (h : IntsAt w A n xs) (hn : n ≤ 1048576) :
    Calls Try.prog 37 #[.slice A n c] w fun e w' => e = .returned (.bool (countsOk xs)) ∧ Below w.heap.size w w' := by
  obtain rfl := h.len
  unfold countsOk
  cases hb1 : inB xs.length 1 6
  · go_enter Try.func37, Try.ntmps37
    go_wp2_with (go_at_call 21; refine (within_any _ _ _ _).mono ?_; rintro e w' ⟨rfl, rfl⟩)
    go_ret
    exact ⟨rfl, Below.refl _ _⟩
  have h1 := inB_iff.1 hb1
  cases hb2 : xs.all (inB · 0 1000000)
  · go_enter Try.func37, Try.ntmps37
    go_wp2_with (go_at_call 21; refine (within_any _ _ _ _).mono ?_; rintro e w' ⟨rfl, rfl⟩)
    refine (allWithin_any _ _ _ _ _ _ _ h (by omega)).mono ?_
    rintro e w' ⟨rfl, hb⟩
    rw [hb2]
    go_wp2
    go_ret
    exact ⟨rfl, hb⟩
  have HE := Lib.hid (lmax_pos (xs := xs) (by omega) (fun x hx => (inB_iff.1 (List.all_eq_true.1 hb2 x hx)).1))
  go_enter Try.func37, Try.ntmps37
  go_wp2_with (go_at_call 21; refine (within_any _ _ _ _).mono ?_; rintro e w' ⟨rfl, rfl⟩)
  refine (allWithin_any _ _ _ _ _ _ _ h (by omega)).mono ?_
  rintro e w' ⟨rfl, hb⟩
  rw [hb2]
  go_wp2_with fail
  refine (max_any _ _ _ _ _ (h.below hb) hn (by omega)).mono ?_
  rintro e w2 ⟨rfl, rfl⟩
  go_wp2
  go_ret
  exact ⟨ret_b (by rw [← HE.out]; rfl), hb⟩
end Go.Proofs.Ytoajmckhfnaifaa
