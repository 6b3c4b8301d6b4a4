/- Places in a list of numbers: slices.Index, PlaceOf, Prefers. -/
import Derived.Test.YtnoanomihifobaaDoorClosures
namespace Go.Proofs.YtnoanomihifobaaDoor
set_option linter.unusedVariables false
open Go.RowKit

theorem idxP_bd (p : Int → Bool) (xs : List Int) : ∀ k, idxP p xs k = -1 ∨ ((k : Int) ≤ idxP p xs k ∧ idxP p xs k < xs.length ∧ p (ix xs (idxP p xs k).toNat) = true) := by
  intro k
  generalize hd : xs.length - k = d
  induction d generalizing k with
  | zero => exact .inl (idxP_end p xs k (by omega))
  | succ d ih =>
    have hk : k < xs.length := by omega
    rw [idxP_step p xs k hk]
    cases hp : p (ix xs k)
    · rw [if_neg (by simp)]
      rcases ih (k + 1) (by omega) with h | ⟨h1, h2, h3⟩
      · exact .inl h
      · exact .inr ⟨by omega, h2, h3⟩
    · rw [if_pos rfl]
      exact .inr ⟨Int.le_refl _, by omega, by simpa using hp⟩

/-- the place of a in a list, or -1 -/
def place (xs : List Int) (a : Int) : Int := idxP (· == a) xs 0
theorem place_bd (xs : List Int) (a : Int) : -1 ≤ place xs a ∧ place xs a < xs.length := by
  unfold place
  rcases idxP_bd (· == a) xs 0 with h | ⟨h1, h2, _⟩ <;> omega
theorem place_at {xs : List Int} {a : Int} (h : 0 ≤ place xs a) : ix xs (place xs a).toNat = a := by
  unfold place at *
  rcases idxP_bd (· == a) xs 0 with h' | ⟨_, _, h3⟩
  · omega
  · simpa using h3
theorem place_mem {xs : List Int} {a : Int} : 0 ≤ place xs a ↔ a ∈ xs := by
  have h := idxP_ge (· == a) xs 0
  rw [List.drop_zero] at h
  unfold place
  rw [← decide_eq_true_iff (p := 0 ≤ idxP (· == a) xs 0), ← h, List.any_eq_true]
  constructor
  · rintro ⟨x, hx, e⟩; have : x = a := by simpa using e
    rwa [← this]
  · exact fun hx => ⟨a, hx, beq_self_eq_true a⟩
theorem place_neg {xs : List Int} {a : Int} : place xs a < 0 ↔ a ∉ xs := by
  rw [← place_mem]; omega
/-- a stands in a list -/
def has (xs : List Int) (a : Int) : Bool := decide (0 ≤ place xs a)
theorem has_iff {xs : List Int} {a : Int} : has xs a = true ↔ a ∈ xs := by rw [has, decide_eq_true_iff, place_mem]
theorem has_not {xs : List Int} {a : Int} : has xs a = false ↔ a ∉ xs := by rw [← has_iff]; simp
/-- a and b stand in a list, a ahead of b -/
def pref (xs : List Int) (a b : Int) : Bool := decide (0 ≤ place xs a) && decide (0 ≤ place xs b) && decide (place xs a < place xs b)

theorem IntsAt.take {w : World} {A : Option Addr} {n k : Nat} {xs : List Int} (h : IntsAt w A n xs) (hk : k ≤ n) : IntsAt w A k (xs.take k) := by
  refine ⟨by rw [List.length_take, h.1]; omega, fun h0 => ?_⟩
  obtain ⟨b, o, e, hc⟩ := h.2 (by omega)
  refine ⟨b, o, e, fun j hj => ?_⟩
  rw [hc j (by omega)]
  have h1 : j < (xs.take k).length := by rw [List.length_take, h.1]; omega
  rw [ix_lt h1, ix_lt (by rw [h.1]; omega)]
  simp
theorem index_any (A : Option Addr) (n c : Nat) (xs : List Int) (a : Int) (w : World) (h : IntsAt w A n xs) (hn : n ≤ 1099511627776) :
    Calls Tryd.prog 59 #[.slice A n c, .int .i64 a] w fun e w' => e = .returned (.int .i64 (place xs a)) ∧ w = w' := by
  obtain rfl := h.len
  unfold place
  go_enter Tryd.func59, Tryd.ntmps59
  go_wp2
  go_loop [5, 8] (fun _ i => ∃ k : Nat, k ≤ xs.length ∧ i = .int .i64 k ∧ idxP (· == a) xs 0 = idxP (· == a) xs k) (fun _ i => xs.length - (intOf i).toNat)
  case atStart => exact ⟨0, Nat.zero_le _, rfl, rfl⟩
  case round =>
    obtain ⟨k, hk, rfl, hid⟩ := hrel
    have HI := Lib.hid hid
    clear hid
    by_cases hlt : k < xs.length
    · obtain ⟨b, o, rfl, _, hc⟩ := h.at_ hlt
      have hck := hc k hlt
      clear hc
      have hstep := idxP_step (· == a) xs k hlt
      by_cases he : ix xs k = a
      · rw [if_pos (by rw [he]; exact beq_self_eq_true a)] at hstep
        have HS := Lib.hid hstep
        clear hstep
        obtain rfl := he
        go_wp2
        go_ret
        exact ⟨ret_i (HI.out.trans HS.out).symm, rfl⟩
      · rw [if_neg (by simpa using he)] at hstep
        have HS := Lib.hid hstep
        clear hstep
        have h1 : (a == ix xs k) = false := by rw [beq_eq_false_iff_ne]; exact fun e => he e.symm
        have h2 : (ix xs k == a) = false := by rw [beq_eq_false_iff_ne]; exact he
        clear he
        go_wp2
        go_round
        case rel => exact ⟨k + 1, by omega, by go_num, HI.out.trans HS.out⟩
        case measure => simp [intOf]; omega
    · obtain rfl : k = xs.length := by omega
      have hend := idxP_end (· == a) xs xs.length (Nat.le_refl _)
      have HS := Lib.hid hend
      clear hend
      go_wp2
      go_ret
      exact ⟨ret_i (HI.out.trans HS.out).symm, rfl⟩
theorem contains_any (A : Option Addr) (n c : Nat) (xs : List Int) (a : Int) (w : World) (h : IntsAt w A n xs) (hn : n ≤ 1099511627776) :
    Calls Tryd.prog 49 #[.slice A n c, .int .i64 a] w fun e w' => e = .returned (.bool (has xs a)) ∧ w = w' := by
  go_enter Tryd.func49, Tryd.ntmps49
  go_wp2_with (go_at_call 59; (with_reducible refine (index_any _ _ _ _ _ _ h hn).mono ?_); rintro e w' ⟨rfl, rfl⟩)
  go_ret
  exact ⟨rfl, rfl⟩
end Go.Proofs.YtnoanomihifobaaDoor
