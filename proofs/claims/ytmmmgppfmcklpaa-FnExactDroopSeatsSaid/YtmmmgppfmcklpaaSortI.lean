/- Numbers below n in the order of what is left of each, greatest first: plain Lean, no program is walked here. -/
import Derived.Test.YtmmmgppfmcklpaaQuotas
import Derived.Test.YtmmmgppfmcklpaaRankOk
import Derived.Test.YtmmmgppfmcklpaaIndices
namespace Go.Proofs.Ytmmmgppfmcklpaa
set_option linter.unusedVariables false
open Go.RowKit

/-- what is left of a -/
def rv (rs : List Int) (a : Int) : Int := ix rs a.toNat
/-- a comes ahead of b -/
def bef (rs : List Int) (a b : Int) : Prop := rv rs b < rv rs a ∨ (rv rs a = rv rs b ∧ a < b)
theorem bef_asymm {rs : List Int} {a b : Int} (h1 : bef rs a b) (h2 : bef rs b a) : False := by unfold bef at h1 h2; omega
/-- where x goes among the first j of S, looked for from the right -/
def slide (rs S : List Int) (x : Int) : Nat → Nat
  | 0 => 0
  | j + 1 => if rv rs (ix S j) < rv rs x then slide rs S x j else j + 1
def insS (rs S : List Int) (x : Int) : List Int := S.take (slide rs S x S.length) ++ x :: S.drop (slide rs S x S.length)
def sortS (rs : List Int) : Nat → List Int
  | 0 => []
  | k + 1 => insS rs (sortS rs k) (k : Int)
theorem slide_le (rs S : List Int) (x : Int) : ∀ j, slide rs S x j ≤ j
  | 0 => Nat.le_refl _
  | j + 1 => by have := slide_le rs S x j; unfold slide; split <;> omega
theorem slide_right {rs S : List Int} {x : Int} : ∀ {j i : Nat}, slide rs S x j ≤ i → i < j → rv rs (ix S i) < rv rs x
  | 0, _, _, h => absurd h (by omega)
  | j + 1, i, h1, h2 => by
    unfold slide at h1
    split at h1
    · rename_i h
      by_cases e : i = j
      · subst e; exact h
      · exact slide_right h1 (by omega)
    · omega
theorem slide_left {rs S : List Int} {x : Int} : ∀ {j : Nat}, 0 < slide rs S x j → rv rs x ≤ rv rs (ix S (slide rs S x j - 1))
  | 0, h => absurd h (by simp [slide])
  | j + 1, h => by
    unfold slide at h ⊢
    split at h
    · rename_i h0
      rw [if_pos h0]
      exact slide_left h
    · rename_i h0
      rw [if_neg h0]
      simp only [Nat.add_sub_cancel]
      omega
theorem insS_perm (rs S : List Int) (x : Int) : (insS rs S x).Perm (S ++ [x]) := by
  unfold insS
  refine (List.perm_middle).trans ?_
  rw [List.take_append_drop]
  exact (List.perm_append_comm (l₁ := [x]) (l₂ := S))
theorem sortS_perm (rs : List Int) : ∀ k, (sortS rs k).Perm (upE k)
  | 0 => List.Perm.refl _
  | k + 1 => by
    have e : upE (k + 1) = upE k ++ [(k : Int)] := by unfold upE; rw [List.range_succ, List.map_append]; rfl
    rw [e]
    exact (insS_perm _ _ _).trans ((sortS_perm rs k).append_right _)
theorem sortS_len (rs : List Int) (k : Nat) : (sortS rs k).length = k := by rw [(sortS_perm rs k).length_eq, upE_len]
theorem sortS_mem {rs : List Int} {k : Nat} {x : Int} : x ∈ sortS rs k ↔ 0 ≤ x ∧ x < k := by
  rw [(sortS_perm rs k).mem_iff]
  constructor
  · intro h
    obtain ⟨j, hj, rfl⟩ := upE_mem h
    omega
  · intro h
    unfold upE
    exact List.mem_map.2 ⟨x.toNat, List.mem_range.2 (by omega), by omega⟩
theorem sortS_at {rs : List Int} {k j : Nat} (h : j < k) : 0 ≤ ix (sortS rs k) j ∧ ix (sortS rs k) j < k := sortS_mem.1 (ix_mem (by rw [sortS_len]; exact h))
theorem insS_sorted {rs S : List Int} {x : Int} (hs : S.Pairwise (bef rs)) (hx : ∀ y ∈ S, y < x) : (insS rs S x).Pairwise (bef rs) := by
  have hp := slide_le rs S x S.length
  have hr := @slide_right rs S x S.length
  have hl := @slide_left rs S x S.length
  unfold insS
  generalize slide rs S x S.length = p at *
  have hi := List.pairwise_iff_getElem.1 hs
  have hS := hs
  rw [← List.take_append_drop p S, List.pairwise_append] at hS
  rw [List.pairwise_append, List.pairwise_cons]
  refine ⟨hS.1, ⟨fun b hb => ?_, hS.2.1⟩, fun a ha b hb => ?_⟩
  · obtain ⟨j, hj, rfl⟩ := List.getElem_of_mem hb
    rw [List.length_drop] at hj
    have := hr (i := p + j) (by omega) (by omega)
    rw [ix_lt (show p + j < S.length by omega)] at this
    rw [List.getElem_drop]
    exact .inl this
  · rcases List.mem_cons.1 hb with rfl | hb
    · have hay := hx a (List.mem_of_mem_take ha)
      obtain ⟨j, hj, rfl⟩ := List.getElem_of_mem ha
      rw [List.length_take] at hj
      have h1 := hl (by omega)
      rw [ix_lt (show p - 1 < S.length by omega)] at h1
      rw [List.getElem_take] at hay ⊢
      by_cases e : j = p - 1
      · subst e
        unfold bef; omega
      · have := hi j (p - 1) (by omega) (by omega) (by omega)
        unfold bef at this ⊢
        omega
    · exact hS.2.2 a ha b hb
theorem sortS_sorted (rs : List Int) : ∀ k, (sortS rs k).Pairwise (bef rs)
  | 0 => List.Pairwise.nil
  | k + 1 => insS_sorted (sortS_sorted rs k) fun y hy => (sortS_mem.1 hy).2
theorem sortS_bef {rs : List Int} {k i j : Nat} (h : i < j) (hj : j < k) : bef rs (ix (sortS rs k) i) (ix (sortS rs k) j) := by
  have hl := sortS_len rs k
  rw [ix_lt (show i < (sortS rs k).length by omega), ix_lt (show j < (sortS rs k).length by omega)]
  exact List.pairwise_iff_getElem.1 (sortS_sorted rs k) i j (by omega) (by omega) h
/-- the row while x is on its way: it stands at place j -/
def way (S : List Int) (x : Int) (tail : List Int) (j : Nat) : List Int := S.take j ++ x :: (S.drop j ++ tail)
theorem way_len {S tail : List Int} {x : Int} {j : Nat} (h : j ≤ S.length) : (way S x tail j).length = S.length + 1 + tail.length := by unfold way; simp; omega
theorem way_at {S tail : List Int} {x : Int} {j : Nat} (h : j ≤ S.length) : ix (way S x tail j) j = x := by
  rw [ix_lt (by rw [way_len h]; omega)]
  unfold way
  rw [List.getElem_append_right (by simp; omega)]
  simp [Nat.min_eq_left h]
theorem way_left {S tail : List Int} {x : Int} {j : Nat} (h : j < S.length) : ix (way S x tail (j + 1)) j = ix S j := by
  rw [ix_lt (by rw [way_len (by omega)]; omega), ix_lt h]
  unfold way
  rw [List.getElem_append_left (by simp; omega)]
  simp
theorem way_step {S tail : List Int} {x : Int} {j : Nat} (h : j < S.length) : ((way S x tail (j + 1)).set (j + 1) (ix S j)).set j x = way S x tail j := by
  have e1 : S.take (j + 1) = S.take j ++ [ix S j] := take_ix h
  have e2 : S.drop j = ix S j :: S.drop (j + 1) := by rw [ix_lt h]; exact List.drop_eq_getElem_cons h
  have e3 : (S.take j).length = j := by simp; omega
  unfold way
  rw [e1, e2]
  generalize S.take j = a at *
  generalize S.drop (j + 1) = b at *
  subst e3
  simp
theorem way_start {S tail : List Int} {x : Int} : way S x tail S.length = S ++ x :: tail := by unfold way; simp
theorem way_end {rs S tail : List Int} {x : Int} : way S x tail (slide rs S x S.length) = insS rs S x ++ tail := by unfold way insS; simp
def tailE (n k : Nat) : List Int := (upE n).drop k
theorem tailE_step {n k : Nat} (h : k < n) : tailE n k = (k : Int) :: tailE n (k + 1) := by
  unfold tailE
  rw [List.drop_eq_getElem_cons (by rw [upE_len]; exact h)]
  congr 1
  simp [upE]
/-- the seats after t more are given in the order T -/
def giveTo (seats T : List Int) : Nat → List Int
  | 0 => seats
  | t + 1 => (giveTo seats T t).set (ix T t).toNat (ix (giveTo seats T t) (ix T t).toNat + 1)
theorem giveTo_len (seats T : List Int) (t : Nat) : (giveTo seats T t).length = seats.length := by
  induction t with
  | zero => rfl
  | succ t ih => rw [giveTo, List.length_set]; exact ih
theorem lsum_set {xs : List Int} {j : Nat} {v : Int} (h : j < xs.length) : lsum (xs.set j v) = lsum xs + (v - ix xs j) := by
  induction xs generalizing j with
  | nil => simp at h
  | cons y ys ih =>
    cases j with
    | zero => simp [lsum, ix]; omega
    | succ j =>
      have := ih (j := j) (by simpa using h)
      simp only [List.set_cons_succ, lsum, this]
      have e : ix (y :: ys) (j + 1) = ix ys j := by unfold ix; simp
      rw [e]; omega
theorem giveTo_sum {seats T : List Int} {t : Nat} (h : ∀ i, i < t → 0 ≤ ix T i ∧ ix T i < seats.length) : lsum (giveTo seats T t) = lsum seats + t := by
  induction t with
  | zero => simp [giveTo]
  | succ t ih =>
    have := h t (by omega)
    rw [giveTo, lsum_set (by rw [giveTo_len]; omega), ih (fun i hi => h i (by omega))]
    omega
theorem giveTo_bd {seats T : List Int} {m : Int} {t : Nat} (hs : ∀ i, i < seats.length → 0 ≤ ix seats i ∧ ix seats i ≤ m) (h : ∀ i, i < t → 0 ≤ ix T i ∧ ix T i < seats.length) : ∀ i, i < seats.length → 0 ≤ ix (giveTo seats T t) i ∧ ix (giveTo seats T t) i ≤ m + t := by
  induction t with
  | zero => intro i hi; have := hs i hi; simp only [giveTo]; omega
  | succ t ih =>
    intro i hi
    have h0 := h t (by omega)
    have h1 := ih (fun i hi => h i (by omega)) i hi
    have h2 := ih (fun i hi => h i (by omega)) (ix T t).toNat (by omega)
    have hl := giveTo_len seats T t
    by_cases e : i = (ix T t).toNat
    · subst e
      rw [giveTo, ix_lt (by rw [List.length_set, hl]; omega), List.getElem_set_self]
      omega
    · rw [giveTo, ix_lt (by rw [List.length_set, hl]; omega), List.getElem_set_ne (by omega), ← ix_lt (by rw [hl]; omega)]
      omega
/-- the greatest among those that are not used, as the reference looks for it: among the first k -/
def bestTo (rs : List Int) (u : Nat → Bool) : Nat → Int
  | 0 => -1
  | k + 1 => if !u k && (decide (bestTo rs u k < 0) || decide (rv rs (bestTo rs u k) < ix rs k)) then (k : Int) else bestTo rs u k
theorem best_inv (rs : List Int) (u : Nat → Bool) : ∀ k, (bestTo rs u k = -1 ∧ ∀ i, i < k → u i = true) ∨ ∃ b : Nat, bestTo rs u k = b ∧ b < k ∧ u b = false ∧ ∀ i, i < k → u i = false → i ≠ b → bef rs b i
  | 0 => .inl ⟨rfl, fun i h => absurd h (by omega)⟩
  | k + 1 => by
    have e : rv rs (k : Int) = ix rs k := by unfold rv; simp
    cases hu : u k
    · rcases best_inv rs u k with ⟨h1, h2⟩ | ⟨b, h1, h2, h3, h4⟩
      · right
        refine ⟨k, by rw [bestTo, hu, h1]; rfl, by omega, hu, fun i hi hui hne => ?_⟩
        have := h2 i (by omega)
        rw [this] at hui
        cases hui
      · by_cases hlt : rv rs (b : Int) < ix rs k
        · right
          refine ⟨k, by rw [bestTo, hu, h1, decide_eq_true hlt]; simp, by omega, hu, fun i hi hui hne => ?_⟩
          by_cases eb : i = b
          · subst eb
            left; rw [e]; exact hlt
          · have := h4 i (by omega) hui eb
            left
            rw [e]
            unfold bef at this
            omega
        · right
          refine ⟨b, by rw [bestTo, hu, h1, decide_eq_false hlt, decide_eq_false (by omega)]; rfl, by omega, h3, fun i hi hui hne => ?_⟩
          by_cases ek : i = k
          · subst ek
            unfold bef
            rw [e]
            omega
          · exact h4 i (by omega) hui hne
    · have e2 : bestTo rs u (k + 1) = bestTo rs u k := by rw [bestTo, hu]; rfl
      rw [e2]
      rcases best_inv rs u k with ⟨h1, h2⟩ | ⟨b, h1, h2, h3, h4⟩
      · left
        refine ⟨h1, fun i hi => ?_⟩
        by_cases ek : i = k
        · rw [ek]; exact hu
        · exact h2 i (by omega)
      · right
        refine ⟨b, h1, by omega, h3, fun i hi hui hne => ?_⟩
        by_cases ek : i = k
        · subst ek; rw [hu] at hui; cases hui
        · exact h4 i (by omega) hui hne
def usedB (T : List Int) (t : Nat) (j : Nat) : Bool := has (T.take t) (j : Int)
theorem best_next {rs : List Int} {n t : Nat} (h : t < n) : bestTo rs (usedB (sortS rs n) t) n = ix (sortS rs n) t := by
  have hl := sortS_len rs n
  have hnd : (sortS rs n).Pairwise (· ≠ ·) := (sortS_sorted rs n).imp fun h e => by subst e; exact bef_asymm h h
  have ht := sortS_at (rs := rs) h
  have huu : ∀ j : Nat, j < n → (usedB (sortS rs n) t j = true ↔ ∃ i, i < t ∧ ix (sortS rs n) i = (j : Int)) := by
    intro j hj
    unfold usedB
    rw [has_iff]
    constructor
    · intro hm
      obtain ⟨i, hi, e⟩ := List.getElem_of_mem hm
      rw [List.length_take] at hi
      rw [List.getElem_take] at e
      exact ⟨i, by omega, by rw [ix_lt (by omega)]; exact e⟩
    · rintro ⟨i, hi, e⟩
      rw [ix_lt (by omega)] at e
      exact List.mem_iff_getElem.2 ⟨i, by rw [List.length_take]; omega, by rw [List.getElem_take]; exact e⟩
  have hne : ∀ i, i < n → i ≠ t → ix (sortS rs n) i ≠ ix (sortS rs n) t := by
    intro i hi hit e
    rcases Nat.lt_or_gt_of_ne hit with hlt | hlt
    · have := sortS_bef (rs := rs) hlt h
      rw [e] at this
      exact bef_asymm this this
    · have := sortS_bef (rs := rs) hlt hi
      rw [e] at this
      exact bef_asymm this this
  obtain ⟨j, hj⟩ : ∃ j : Nat, ix (sortS rs n) t = (j : Int) := ⟨(ix (sortS rs n) t).toNat, by omega⟩
  have hjn : j < n := by omega
  have hju : usedB (sortS rs n) t j = false := by
    cases hc : usedB (sortS rs n) t j
    · rfl
    · obtain ⟨i, hi, e⟩ := (huu j hjn).1 hc
      exact absurd (e.trans hj.symm) (hne i (by omega) (by omega))
  rw [hj]
  rcases best_inv rs (usedB (sortS rs n) t) n with ⟨_, h2⟩ | ⟨b, h1, h2, h3, h4⟩
  · rw [h2 j hjn] at hju; cases hju
  · rw [h1]
    by_cases e : j = b
    · rw [e]
    · exfalso
      have hb := h4 j hjn hju e
      have hbm : (b : Int) ∈ sortS rs n := sortS_mem.2 ⟨by omega, by omega⟩
      obtain ⟨s, hs, es⟩ := List.getElem_of_mem hbm
      rw [hl] at hs
      rw [← ix_lt (by omega)] at es
      have hst : t < s := by
        rcases Nat.lt_trichotomy t s with h0 | h0 | h0
        · exact h0
        · subst h0; omega
        · have := (huu b h2).2 ⟨s, h0, es⟩
          rw [this] at h3; cases h3
      have := sortS_bef (rs := rs) hst hs
      rw [hj, es] at this
      exact bef_asymm this hb
end Go.Proofs.Ytmmmgppfmcklpaa
