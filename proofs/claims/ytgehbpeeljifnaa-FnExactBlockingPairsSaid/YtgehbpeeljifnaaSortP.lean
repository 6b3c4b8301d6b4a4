/- Pairs put in order: plain Lean, no program is walked here. -/
import Derived.Test.YtgehbpeeljifnaaMBlocks
import Derived.Test.YtgehbpeeljifnaaRows2
namespace Go.Proofs.Ytgehbpeeljifnaa
set_option linter.unusedVariables false
open Go.RowKit

def keyOf (x : List Int) : Int := ix x 0 * 100 + ix x 1
/-- as the reference compares pairs -/
def pairLt (x y : List Int) : Bool := decide (ix x 0 < ix y 0) || (ix x 0 == ix y 0 && decide (ix x 1 < ix y 1))
def small2 (x : List Int) : Prop := x.length = 2 ∧ 0 ≤ ix x 1 ∧ ix x 1 < 100
theorem pairLt_key {x y : List Int} (hx : small2 x) (hy : small2 y) : pairLt x y = decide (keyOf x < keyOf y) := by
  obtain ⟨_, h1, h2⟩ := hx
  obtain ⟨_, h3, h4⟩ := hy
  unfold pairLt keyOf
  rw [Bool.eq_iff_iff]
  simp only [Bool.or_eq_true, Bool.and_eq_true, decide_eq_true_eq, beq_iff_eq]
  omega
/-- how many of the first rows come ahead of x -/
def pos : List (List Int) → List Int → Nat
  | [], _ => 0
  | y :: ys, x => if pairLt y x then pos ys x + 1 else 0
theorem pos_le : ∀ (ys : List (List Int)) (x : List Int), pos ys x ≤ ys.length
  | [], x => by simp [pos]
  | y :: ys, x => by
    have := pos_le ys x
    simp only [pos, List.length_cons]
    split <;> omega
theorem pos_lt : ∀ (ys : List (List Int)) (x : List Int) (j : Nat), j < pos ys x → pairLt (rx ys j) x = true
  | [], x, j, h => by simp [pos] at h
  | y :: ys, x, j, h => by
    simp only [pos] at h
    split at h
    · rename_i hy
      cases j with
      | zero => simpa [rx] using hy
      | succ j => have := pos_lt ys x j (by omega); simpa [rx] using this
    · omega
theorem pos_at : ∀ (ys : List (List Int)) (x : List Int), pos ys x < ys.length → pairLt (rx ys (pos ys x)) x = false
  | [], x, h => by simp at h
  | y :: ys, x, h => by
    simp only [pos] at h ⊢
    split
    · rename_i hy
      rw [if_pos hy] at h
      have := pos_at ys x (by simpa using h)
      simpa [rx] using this
    · rename_i hy
      simpa [rx] using hy
theorem pos_more {ys : List (List Int)} {x : List Int} {k : Nat} (h : k ≤ pos ys x) (hk : k < ys.length) (hl : pairLt (rx ys k) x = true) : k + 1 ≤ pos ys x := by
  rcases Nat.lt_or_ge k (pos ys x) with h1 | h1
  · exact h1
  · have e : pos ys x = k := by omega
    have := pos_at ys x (by omega)
    rw [e, hl] at this
    cases this
theorem pos_stop {ys : List (List Int)} {x : List Int} {k : Nat} (h : k ≤ pos ys x) (hl : pairLt (rx ys k) x = false) : pos ys x = k := by
  rcases Nat.lt_or_ge k (pos ys x) with h1 | h1
  · have := pos_lt ys x k h1
    rw [hl] at this
    cases this
  · omega
theorem pos_end {ys : List (List Int)} {x : List Int} (h : ys.length ≤ pos ys x) : pos ys x = ys.length := by have := pos_le ys x; omega

def insP (L : List (Value × List Int)) (x : Value × List Int) : List (Value × List Int) := L.take (pos (L.map Prod.snd) x.2) ++ [x] ++ L.drop (pos (L.map Prod.snd) x.2)
def sortTo (Z : List (Value × List Int)) : Nat → List (Value × List Int)
  | 0 => []
  | k + 1 => match Z[k]? with
    | some x => insP (sortTo Z k) x
    | none => sortTo Z k
theorem insP_perm (L : List (Value × List Int)) (x : Value × List Int) : (insP L x).Perm (L ++ [x]) := by
  unfold insP
  have h := List.perm_append_comm (l₁ := [x]) (l₂ := L.drop (pos (L.map Prod.snd) x.2))
  rw [List.append_assoc]
  refine (List.Perm.append_left _ h).trans ?_
  rw [← List.append_assoc, List.take_append_drop]
theorem sortTo_perm (Z : List (Value × List Int)) : ∀ k, (sortTo Z k).Perm (Z.take k)
  | 0 => by simp [sortTo]
  | k + 1 => by
    have ih := sortTo_perm Z k
    simp only [sortTo]
    split
    · rename_i x hx
      obtain ⟨h1, h2⟩ := List.getElem?_eq_some_iff.1 hx
      rw [List.take_succ_eq_append_getElem h1, h2]
      exact (insP_perm _ _).trans (ih.append_right _)
    · rename_i hx
      have h1 := List.getElem?_eq_none_iff.1 hx
      rw [List.take_of_length_le (by omega)]
      rw [List.take_of_length_le h1] at ih
      exact ih
theorem sortTo_len {Z : List (Value × List Int)} {k : Nat} (h : k ≤ Z.length) : (sortTo Z k).length = k := by
  rw [(sortTo_perm Z k).length_eq, List.length_take]; omega

def ltP (p q : Value × List Int) : Prop := keyOf p.2 < keyOf q.2
theorem insP_sorted {L : List (Value × List Int)} {x : Value × List Int} (hs : L.Pairwise ltP) (hm : ∀ p ∈ L, small2 p.2) (hx : small2 x.2) (hne : ∀ p ∈ L, keyOf p.2 ≠ keyOf x.2) : (insP L x).Pairwise ltP := by
  have hrx : ∀ j (hj : j < L.length), rx (L.map Prod.snd) j = (L[j]).2 := fun j hj => by rw [rx_lt (by simpa using hj)]; simp
  have hple := pos_le (L.map Prod.snd) x.2
  rw [List.length_map] at hple
  have hlow : ∀ p ∈ L.take (pos (L.map Prod.snd) x.2), keyOf p.2 < keyOf x.2 := fun p hp => by
    obtain ⟨j, hj, rfl⟩ := List.getElem_of_mem hp
    have hj2 : j < pos (L.map Prod.snd) x.2 ∧ j < L.length := by rw [List.length_take] at hj; omega
    have h1 := pos_lt (L.map Prod.snd) x.2 j hj2.1
    rw [hrx j hj2.2, pairLt_key (hm _ (List.getElem_mem hj2.2)) hx, decide_eq_true_eq] at h1
    simpa using h1
  have hhigh : ∀ p ∈ L.drop (pos (L.map Prod.snd) x.2), keyOf x.2 < keyOf p.2 := fun p hp => by
    have hlt : pos (L.map Prod.snd) x.2 < L.length := by
      rcases Nat.lt_or_ge (pos (L.map Prod.snd) x.2) L.length with h | h
      · exact h
      · rw [List.drop_eq_nil_of_le h] at hp; simp at hp
    have h1 := pos_at (L.map Prod.snd) x.2 (by rw [List.length_map]; exact hlt)
    rw [hrx _ hlt, pairLt_key (hm _ (List.getElem_mem hlt)) hx, decide_eq_false_iff_not] at h1
    have h2 := hne _ (List.getElem_mem hlt)
    rw [List.drop_eq_getElem_cons hlt] at hp
    have hd := hs.sublist (List.drop_sublist (pos (L.map Prod.snd) x.2) L)
    rw [List.drop_eq_getElem_cons hlt, List.pairwise_cons] at hd
    rcases List.mem_cons.1 hp with rfl | hp
    · omega
    · have : ltP _ _ := hd.1 p hp
      unfold ltP at this
      omega
  unfold insP
  rw [List.append_assoc, List.pairwise_append]
  refine ⟨hs.sublist (List.take_sublist _ _), ?_, fun a ha b hb => ?_⟩
  · rw [List.singleton_append, List.pairwise_cons]
    exact ⟨hhigh, hs.sublist (List.drop_sublist _ _)⟩
  · have h1 := hlow a ha
    rcases List.mem_append.1 hb with hb | hb
    · rw [List.mem_singleton] at hb; subst hb; exact h1
    · have h2 := hhigh b hb
      show keyOf a.2 < keyOf b.2
      omega
theorem sortTo_sorted {Z : List (Value × List Int)} (hm : ∀ p ∈ Z, small2 p.2) (hd : Z.Pairwise fun p q => keyOf p.2 ≠ keyOf q.2) : ∀ k, k ≤ Z.length → (sortTo Z k).Pairwise ltP
  | 0, _ => by simp [sortTo]
  | k + 1, h => by
    have ih := sortTo_sorted hm hd k (by omega)
    simp only [sortTo, List.getElem?_eq_getElem (show k < Z.length by omega)]
    refine insP_sorted ih (fun p hp => hm p (List.mem_of_mem_take ((sortTo_perm Z k).subset hp))) (hm _ (List.getElem_mem _)) (fun p hp => ?_)
    obtain ⟨j, hj, rfl⟩ := List.getElem_of_mem ((sortTo_perm Z k).subset hp)
    rw [List.length_take] at hj
    rw [List.getElem_take]
    rw [List.pairwise_iff_getElem] at hd
    exact hd j k (by omega) (by omega) (by omega)
/-- the rows in order, if T is in order and holds the same -/
theorem sort_done {us : List Value} {xss T : List (List Int)} (hl : us.length = xss.length) (hm : ∀ x ∈ xss, small2 x) (hp : T.Perm xss) (hs : T.Pairwise fun x y => keyOf x < keyOf y) : (sortTo (us.zip xss) xss.length).map Prod.snd = T := by
  have hlz : (us.zip xss).length = xss.length := by simp; omega
  have e2 : (us.zip xss).map Prod.snd = xss := List.map_snd_zip (by omega)
  have hdT : T.Pairwise fun x y => keyOf x ≠ keyOf y := hs.imp fun h => by omega
  have hdX : xss.Pairwise fun x y => keyOf x ≠ keyOf y := (hp.pairwise_iff (fun h => Ne.symm h)).1 hdT
  have hdZ : (us.zip xss).Pairwise fun p q => keyOf p.2 ≠ keyOf q.2 := by
    have := hdX
    rw [← e2, List.pairwise_map] at this
    exact this
  have hmZ : ∀ p ∈ us.zip xss, small2 p.2 := fun p h => hm _ (List.of_mem_zip h).2
  have h1 := sortTo_sorted hmZ hdZ xss.length (by omega)
  have h2 := sortTo_perm (us.zip xss) xss.length
  rw [List.take_of_length_le (by omega)] at h2
  have h3 := h2.map Prod.snd
  rw [e2] at h3
  have h4 : ((sortTo (us.zip xss) xss.length).map Prod.snd).Pairwise fun x y => keyOf x < keyOf y := by
    rw [List.pairwise_map]; exact h1
  refine List.Perm.eq_of_pairwise (le := fun x y => keyOf x < keyOf y) ?_ h4 hs (h3.trans hp.symm)
  intro a b _ _ h5 h6
  omega
theorem RowsV.sorted {w : World} {lo hi : Nat} {us : List Value} {xss : List (List Int)} (h : RowsV w lo hi us xss) (k : Nat) : RowsV w lo hi ((sortTo (us.zip xss) k).map Prod.fst) ((sortTo (us.zip xss) k).map Prod.snd) := by
  have hp := sortTo_perm (us.zip xss) k
  have e1 : (us.zip xss).map Prod.fst = us := List.map_fst_zip (by rw [h.1]; exact Nat.le_refl _)
  refine ⟨by simp, fun i hi => ?_, ?_⟩
  · rw [List.length_map] at hi
    have hm := List.mem_of_mem_take (hp.subset (List.getElem_mem hi))
    obtain ⟨j, hj, e⟩ := List.mem_iff_getElem.1 hm
    have hj2 : j < us.length ∧ j < xss.length := by simp at hj; omega
    rw [List.getElem_zip] at e
    obtain ⟨u, e3, ho⟩ := h.2.1 j hj2.2
    rw [List.getElem?_eq_getElem hj2.1] at e3
    cases e3
    refine ⟨(sortTo (us.zip xss) k)[i].1, by simp [hi], ?_⟩
    rw [rx_lt (by simpa using hi), List.getElem_map, ← e]
    rw [rx_lt hj2.2] at ho
    exact ho
  · have h2 := h.2.2
    rw [← e1] at h2
    have h3 := h2.sublist ((List.take_sublist k (us.zip xss)).map _)
    exact ((hp.map Prod.fst).pairwise_iff (fun h => Apart.symm h)).2 h3
end Go.Proofs.Ytgehbpeeljifnaa
