/- All roundings of a table, in order: plain lists, no program is walked here. -/
import Derived.Test.YtefppihanblhmaaIsRnd
namespace Go.Proofs.Ytefppihanblhmaa
set_option linter.unusedVariables false
open Go.RowKit

def lowOf (x : Int) : Int := x - x % 10
def rowF (c : Nat) (l : List Int) (i : Nat) : List Int := (l.drop (i * c)).take c
def rowsF (c : Nat) (l : List Int) (r : Nat) : List (List Int) := (List.range r).map (rowF c l)
/-- entry p of a table, row by row -/
def atF (t : List (List Int)) (c p : Nat) : Int := ix (rx t (p / c)) (p % c)
/-- a row has just been filled, and its sum is not rounded -/
def cutF (t : List (List Int)) (c : Nat) (l : List Int) : Bool := (l.length % c == 0) && decide (0 < l.length) && !isRnd (lsum (rx t (l.length / c - 1))) (lsum (rowF c l (l.length / c - 1)))
/-- the roundings that go on from l, f entries being left -/
def goF (t : List (List Int)) (c r : Nat) : Nat → List Int → List (List Int)
  | 0, l => if isRounding t (rowsF c l r) then [l] else []
  | f + 1, l => if cutF t c l then [] else goF t c r f (l ++ [lowOf (atF t c l.length)]) ++ (if atF t c l.length % 10 = 0 then [] else goF t c r f (l ++ [lowOf (atF t c l.length) + 10]))
theorem goF_len (t : List (List Int)) (c r : Nat) : ∀ f l, (goF t c r f l).length ≤ 2 ^ f
  | 0, l => by unfold goF; split <;> simp
  | f + 1, l => by
    have h1 := goF_len t c r f (l ++ [lowOf (atF t c l.length)])
    have h2 := goF_len t c r f (l ++ [lowOf (atF t c l.length) + 10])
    unfold goF
    rw [Nat.pow_succ]
    split
    · simp
    · split
      · simp; omega
      · simp; omega
theorem goF_mem (t : List (List Int)) (c r : Nat) : ∀ f l m, m ∈ goF t c r f l → isRounding t (rowsF c m r) = true ∧ m.length = l.length + f
  | 0, l, m, h => by
    unfold goF at h
    split at h
    · simp at h; subst h; exact ⟨by assumption, rfl⟩
    · simp at h
  | f + 1, l, m, h => by
    unfold goF at h
    split at h
    · simp at h
    · rw [List.mem_append] at h
      rcases h with h | h
      · have := goF_mem t c r f _ m h
        simp at this
        exact ⟨this.1, by omega⟩
      · split at h
        · simp at h
        · have := goF_mem t c r f _ m h
          simp at this
          exact ⟨this.1, by omega⟩
/-- at most so many, and none less than are wanted -/
theorem goF_limit {a b k : Nat} (hk : 1 ≤ k) : min (a + b) k = if k ≤ min a k then min a k else min a k + min b (k - min a k) := by
  split <;> omega
structure TabF (t : List (List Int)) (c r : Nat) : Prop where
  ok : tableOk t = true
  rl : t.length = r
  r1 : 1 ≤ r
  r4 : r ≤ 4
  c1 : 1 ≤ c
  c4 : c ≤ 4
  row : ∀ i, i < r → (rx t i).length = c ∧ ∀ k, k < c → 0 ≤ ix (rx t i) k ∧ ix (rx t i) k ≤ 1000
theorem tab_facts {t : List (List Int)} (h : tableOk t = true) : TabF t (rx t 0).length t.length := by
  obtain ⟨h1, h2, h3, h4, h5⟩ := tableOk_facts h
  refine ⟨h, rfl, h1, h2, h3, h4, fun i hi => ?_⟩
  have h6 := h5 _ (rx_mem hi)
  exact ⟨h6.1, fun k hk => h6.2 _ (ix_mem (by omega))⟩
theorem TabF.at_ {t : List (List Int)} {c r p : Nat} (F : TabF t c r) (h : p < r * c) : p / c < r ∧ p % c < c ∧ 0 ≤ atF t c p ∧ atF t c p ≤ 1000 := by
  have hc := F.c1
  have h1 : p / c < r := (Nat.div_lt_iff_lt_mul (by omega)).2 h
  have h2 : p % c < c := Nat.mod_lt _ (by omega)
  exact ⟨h1, h2, (F.row _ h1).2 _ h2⟩
theorem rnd_low {x : Int} (h0 : 0 ≤ x) (h1 : x ≤ 1000) : isRnd x (lowOf x) = true := by
  unfold isRnd lowOf
  have : (x - x % 10).tmod 10 = 0 := by rw [Int.tmod_eq_emod_of_nonneg (by omega)]; omega
  simp only [Bool.and_eq_true, beq_iff_eq, decide_eq_true_eq, inB_iff]
  omega
theorem rnd_high {x : Int} (h0 : 0 ≤ x) (h1 : x ≤ 1000) : isRnd x (lowOf x + 10) = decide (x % 10 ≠ 0) := by
  unfold isRnd lowOf
  have : (x - x % 10 + 10).tmod 10 = 0 := by rw [Int.tmod_eq_emod_of_nonneg (by omega)]; omega
  rw [Bool.eq_iff_iff]
  simp only [Bool.and_eq_true, beq_iff_eq, decide_eq_true_eq, inB_iff]
  omega
theorem rowF_len {c r i : Nat} {l : List Int} (h : l.length = r * c) (hi : i < r) : (rowF c l i).length = c := by
  unfold rowF
  rw [List.length_take, List.length_drop, h]
  have : (i + 1) * c ≤ r * c := Nat.mul_le_mul_right c (by omega)
  rw [Nat.add_mul] at this
  omega
theorem rowsF_len (c r : Nat) (l : List Int) : (rowsF c l r).length = r := by simp [rowsF]
theorem rx_rowsF {c r i : Nat} {l : List Int} (hi : i < r) : rx (rowsF c l r) i = rowF c l i := by
  rw [rx_lt (by rw [rowsF_len]; exact hi)]; simp [rowsF]
theorem cut_full {t : List (List Int)} {c r : Nat} {l : List Int} (F : TabF t c r) (hl : l.length = r * c) (h : cutF t c l = true) : isRounding t (rowsF c l r) = false := by
  cases hr : isRounding t (rowsF c l r)
  · rfl
  · exfalso
    unfold isRounding at hr
    rw [Bool.and_eq_true, Bool.and_eq_true] at hr
    obtain ⟨⟨h1, _⟩, h3⟩ := hr
    unfold rndSame at h1
    simp only [Bool.and_eq_true] at h1
    obtain ⟨⟨⟨ht, hR⟩, _⟩, _⟩ := h1
    unfold rndRest at h3
    rw [Bool.and_eq_true, Bool.and_eq_true, rowSumsOf_yes ht, rowSumsOf_yes hR] at h3
    have ha := h3.1.1
    unfold allRnd at ha
    rw [rsums_len, F.rl] at ha
    have := allN_iff.1 ha (r - 1) (by have := F.r1; omega)
    have e1 : ix (rsums t) (r - 1) = lsum (rx t (r - 1)) := by
      have hlt : r - 1 < t.length := by rw [F.rl]; have := F.r1; omega
      rw [ix_lt (by rw [rsums_len]; exact hlt), rx_lt hlt]; simp [rsums]
    have e2 : ix (rsums (rowsF c l r)) (r - 1) = lsum (rowF c l (r - 1)) := by
      have hlt : r - 1 < (rowsF c l r).length := by rw [rowsF_len]; have := F.r1; omega
      rw [ix_lt (by rw [rsums_len]; exact hlt), ← rx_rowsF (r := r) (by have := F.r1; omega), rx_lt hlt]; simp [rsums]
    rw [e1, e2] at this
    unfold cutF at h
    have e3 : l.length / c = r := by rw [hl]; exact Nat.mul_div_cancel _ F.c1
    rw [e3, this] at h
    simp at h
theorem flat_rows {c : Nat} : ∀ {t : List (List Int)}, (∀ xs ∈ t, xs.length = c) → rowsF c t.flatten t.length = t
  | [], _ => rfl
  | x :: t, h => by
    have hx := h x (by simp)
    have ih := flat_rows (t := t) fun xs hxs => h xs (by simp [hxs])
    unfold rowsF at ih ⊢
    rw [List.length_cons, List.range_succ_eq_map, List.map_cons, List.map_map]
    congr 1
    · unfold rowF; simp [hx]
    · conv => rhs; rw [← ih]
      apply List.map_congr_left
      intro i _
      unfold rowF
      simp only [Function.comp, List.flatten_cons, Nat.succ_eq_add_one, Nat.add_mul, Nat.one_mul]
      rw [Nat.add_comm (i * c) c, ← List.drop_drop, List.drop_left' hx]
theorem flat_len {c : Nat} : ∀ {t : List (List Int)}, (∀ xs ∈ t, xs.length = c) → t.flatten.length = t.length * c
  | [], _ => by simp
  | x :: t, h => by
    have ih := flat_len (t := t) fun xs hxs => h xs (by simp [hxs])
    simp [h x (by simp), ih, Nat.add_mul]; omega
theorem rowF_set {c i k j : Nat} {l : List Int} {y : Int} (hk : k < c) (hl : i * c + k < l.length) : rowF c (l.set (i * c + k) y) j = if j = i then (rowF c l i).set k y else rowF c l j := by
  unfold rowF
  by_cases e : j = i
  · subst e
    rw [if_pos rfl, List.drop_set, if_neg (by omega), Nat.add_sub_cancel_left, List.take_set]
  · rw [if_neg e]
    rcases Nat.lt_or_gt_of_ne e with h | h
    · have : (j + 1) * c ≤ i * c := Nat.mul_le_mul_right c (by omega)
      rw [Nat.add_mul, Nat.one_mul] at this
      rw [List.drop_set, if_neg (by omega), List.take_set_of_le (by omega)]
    · have : (i + 1) * c ≤ j * c := Nat.mul_le_mul_right c (by omega)
      rw [Nat.add_mul, Nat.one_mul] at this
      rw [List.drop_set, if_pos (by omega)]
theorem rowsF_set {c r i k : Nat} {l : List Int} {y : Int} (hi : i < r) (hk : k < c) (hl : i * c + k < l.length) : rowsF c (l.set (i * c + k) y) r = (rowsF c l r).set i ((rowF c l i).set k y) := by
  apply List.ext_getElem
  · simp [rowsF]
  · intro j h1 h2
    rw [List.getElem_set]
    simp only [rowsF, List.getElem_map, List.getElem_range]
    rw [rowF_set hk hl]
    by_cases e : j = i
    · subst e; simp
    · rw [if_neg e, if_neg (fun h => e h.symm)]
end Go.Proofs.Ytefppihanblhmaa
