/- Roundings of a table: what is a rounding, said entry by entry; the turned table has as many; a table of at most three rows and columns has one. Plain lists: no program is walked here. -/
import Derived.Test.YtefppihanblhmaaRoundC
namespace Go.Proofs.Ytefppihanblhmaa
set_option linter.unusedVariables false
open Go.RowKit

theorem lsum_map_add {α : Type} (f g : α → Int) : ∀ l : List α, lsum (l.map f) + lsum (l.map g) = lsum (l.map fun x => f x + g x)
  | [] => rfl
  | x :: l => by
    have := lsum_map_add f g l
    simp only [List.map_cons, lsum]
    omega
theorem lsum_map_zero {α : Type} : ∀ l : List α, lsum (l.map fun _ => (0 : Int)) = 0
  | [] => rfl
  | x :: l => by simp only [List.map_cons, lsum, lsum_map_zero l]; rfl
theorem ix_col (t : List (List Int)) (k i : Nat) : ix (colOf t k) i = ix (rx t i) k := by
  by_cases h : i < t.length
  · rw [ix_lt (by rw [colOf_len]; exact h), rx_lt h]; simp [colOf]
  · rw [ix_ge (by rw [colOf_len]; omega)]
    have : rx t i = [] := by unfold rx; simp [List.getD, List.getElem?_eq_none (Nat.le_of_not_lt h)]
    rw [this]; rfl
theorem ix_rsums (t : List (List Int)) (i : Nat) : ix (rsums t) i = lsum (rx t i) := by
  by_cases h : i < t.length
  · rw [ix_lt (by rw [rsums_len]; exact h), rx_lt h]; simp [rsums]
  · rw [ix_ge (by rw [rsums_len]; omega)]
    have : rx t i = [] := by unfold rx; simp [List.getD, List.getElem?_eq_none (Nat.le_of_not_lt h)]
    rw [this]; rfl
theorem turnTo_sum (t : List (List Int)) : ∀ k, (∀ xs ∈ t, k ≤ xs.length) → lsum (rsums (turnTo t k)) = lsum (t.map fun r => lsum (r.take k))
  | 0, _ => by
    have : (t.map fun r => lsum (r.take 0)) = t.map fun _ => (0 : Int) := List.map_congr_left fun r _ => by simp [lsum]
    rw [this, lsum_map_zero]; rfl
  | k + 1, h => by
    have ih := turnTo_sum t k fun xs hx => Nat.le_of_succ_le (h xs hx)
    rw [turnTo_succ]
    unfold rsums at ih ⊢
    rw [List.map_append, lsum_append, ih]
    have e : (t.map fun r => lsum (r.take (k + 1))) = t.map fun r => lsum (r.take k) + ix r k := List.map_congr_left fun r hr => lsum_take (h r hr)
    rw [e, ← lsum_map_add]
    simp [lsum, colOf]
theorem turnR_sum {t : List (List Int)} (h : ∀ xs ∈ t, xs.length = (rx t 0).length) : lsum (rsums (turnR t)) = lsum (rsums t) := by
  unfold turnR
  rw [turnTo_sum t _ fun xs hx => Nat.le_of_eq (h xs hx).symm]
  unfold rsums
  congr 1
  refine List.map_congr_left fun r hr => ?_
  rw [← h r hr, List.take_length]
theorem col_turn {t : List (List Int)} {i : Nat} (h : (rx t i).length = (rx t 0).length) : colOf (turnR t) i = rx t i := by
  apply List.ext_getElem
  · rw [colOf_len, turnR_len, h]
  · intro k h1 h2
    rw [← ix_lt h1, ← ix_lt h2, ix_col, rx_turnR t k (by omega), ix_col]
theorem turn_turn {t : List (List Int)} (h : tableOk t = true) : turnR (turnR t) = t := by
  have F := tab_facts h
  have c1 := F.c1
  have e : (rx (turnR t) 0).length = t.length := by rw [rx_turnR t 0 (by omega), colOf_len]
  apply List.ext_getElem
  · rw [turnR_len, e]
  · intro i h1 h2
    rw [← rx_lt h1, ← rx_lt h2, rx_turnR (turnR t) i (by rw [e]; exact h2), col_turn (F.row i h2).1]

/-- every entry, every row, every column and the total are rounded -/
structure IsR (t r : List (List Int)) (h c : Nat) : Prop where
  cell : ∀ i, i < h → ∀ k, k < c → isRnd (ix (rx t i) k) (ix (rx r i) k) = true
  row : ∀ i, i < h → isRnd (lsum (rx t i)) (lsum (rx r i)) = true
  col : ∀ k, k < c → isRnd (lsum (colOf t k)) (lsum (colOf r k)) = true
  tot : isRnd (lsum (rsums t)) (lsum (rsums r)) = true
theorem isRounding_iff {t r : List (List Int)} (ht : tableOk t = true) : isRounding t r = true ↔ tableOk r = true ∧ r.length = t.length ∧ (rx r 0).length = (rx t 0).length ∧ IsR t r t.length (rx t 0).length := by
  have F := tab_facts ht
  have c1 := F.c1
  unfold isRounding rndSame
  simp only [Bool.and_eq_true, beq_iff_eq]
  constructor
  · rintro ⟨⟨⟨⟨⟨_, h2⟩, h3⟩, h4⟩, h5⟩, h6⟩
    unfold rndRest at h6
    rw [Bool.and_eq_true, Bool.and_eq_true, rowSumsOf_yes ht, rowSumsOf_yes h2, colSumsOf_yes ht, colSumsOf_yes h2, totalOf_yes ht, totalOf_yes h2] at h6
    obtain ⟨⟨a, b⟩, c⟩ := h6
    unfold rndRows at h5
    refine ⟨h2, h3.symm, h4.symm, ⟨fun i hi k hk => ?_, fun i hi => ?_, fun k hk => ?_, c⟩⟩
    · have := allN_iff.1 h5 i hi
      unfold allRnd at this
      exact allN_iff.1 this k (by rw [(F.row i hi).1]; exact hk)
    · unfold allRnd at a
      have := allN_iff.1 a i (by rw [rsums_len]; exact hi)
      rwa [ix_rsums, ix_rsums] at this
    · unfold allRnd at b
      have := allN_iff.1 b k (by rw [rsums_len, turnR_len]; exact hk)
      rwa [ix_rsums, ix_rsums, rx_turnR t k hk, rx_turnR r k (by omega)] at this
  · rintro ⟨h2, h3, h4, H⟩
    refine ⟨⟨⟨⟨⟨ht, h2⟩, h3.symm⟩, h4.symm⟩, ?_⟩, ?_⟩
    · unfold rndRows
      refine allN_iff.2 fun i hi => ?_
      unfold allRnd
      exact allN_iff.2 fun k hk => H.cell i hi k (by rw [← (F.row i hi).1]; exact hk)
    · unfold rndRest
      rw [Bool.and_eq_true, Bool.and_eq_true, rowSumsOf_yes ht, rowSumsOf_yes h2, colSumsOf_yes ht, colSumsOf_yes h2, totalOf_yes ht, totalOf_yes h2]
      refine ⟨⟨?_, ?_⟩, H.tot⟩
      · unfold allRnd
        refine allN_iff.2 fun i hi => ?_
        rw [ix_rsums, ix_rsums]; exact H.row i (by rwa [rsums_len] at hi)
      · unfold allRnd
        refine allN_iff.2 fun k hk => ?_
        rw [rsums_len, turnR_len] at hk
        rw [ix_rsums, ix_rsums, rx_turnR t k hk, rx_turnR r k (by omega)]; exact H.col k hk
theorem rows_same {t : List (List Int)} (h : tableOk t = true) : ∀ xs ∈ t, xs.length = (rx t 0).length := fun xs hx => ((tableOk_facts h).2.2.2.2 xs hx).1
theorem rounding_turn {t r : List (List Int)} (ht : tableOk t = true) (h : isRounding t r = true) : isRounding (turnR t) (turnR r) = true := by
  have F := tab_facts ht
  have c1 := F.c1
  have r1 := F.r1
  obtain ⟨h2, h3, h4, H⟩ := (isRounding_iff ht).1 h
  have G := tab_facts h2
  have e : (rx (turnR t) 0).length = t.length := by rw [rx_turnR t 0 (by omega), colOf_len]
  have e' : (rx (turnR r) 0).length = r.length := by rw [rx_turnR r 0 (by omega), colOf_len]
  refine (isRounding_iff (turn_ok ht)).2 ⟨turn_ok h2, by rw [turnR_len, turnR_len, h4], by rw [e, e', h3], ?_⟩
  rw [turnR_len, e]
  refine ⟨fun k hk i hi => ?_, fun k hk => ?_, fun i hi => ?_, ?_⟩
  · rw [rx_turnR t k hk, rx_turnR r k (by omega), ix_col, ix_col]; exact H.cell i hi k hk
  · rw [rx_turnR t k hk, rx_turnR r k (by omega)]; exact H.col k hk
  · rw [col_turn (F.row i hi).1, col_turn (G.row i (by omega)).1]; exact H.row i hi
  · rw [turnR_sum (rows_same ht), turnR_sum (rows_same h2)]; exact H.tot

/-- a full list is its own rows -/
theorem flat_rowsF {c : Nat} : ∀ {r : Nat} {m : List Int}, m.length = r * c → (rowsF c m r).flatten = m
  | 0, m, h => by
    have : m = [] := List.eq_nil_of_length_eq_zero (by simpa using h)
    subst this; rfl
  | r + 1, m, h => by
    have h' : m.length = r * c + c := by rw [h, Nat.add_mul, Nat.one_mul]
    have ih := flat_rowsF (c := c) (r := r) (m := m.take (r * c)) (by rw [List.length_take]; omega)
    unfold rowsF at ih ⊢
    rw [List.range_succ, List.map_append, List.flatten_append]
    have e : (List.range r).map (rowF c m) = (List.range r).map (rowF c (m.take (r * c))) := List.map_congr_left fun i hi => by
      have hi' : i < r := by simpa using hi
      have h2 : (i + 1) * c ≤ r * c := Nat.mul_le_mul_right c (by omega)
      rw [Nat.add_mul, Nat.one_mul] at h2
      unfold rowF
      rw [List.drop_take, List.take_take, Nat.min_eq_left (by omega)]
    rw [e, ih]
    have e2 : rowF c m r = m.drop (r * c) := by
      unfold rowF
      rw [List.take_of_length_le (by rw [List.length_drop]; omega)]
    simp only [List.map_cons, List.map_nil, List.flatten_cons, List.flatten_nil, List.append_nil]
    rw [e2, List.take_append_drop]

theorem goF_pre (t : List (List Int)) (c r : Nat) : ∀ f l m, m ∈ goF t c r f l → l <+: m
  | 0, l, m, h => by
    unfold goF at h
    split at h
    · simp at h; subst h; exact List.prefix_refl _
    · simp at h
  | f + 1, l, m, h => by
    unfold goF at h
    split at h
    · simp at h
    · rw [List.mem_append] at h
      rcases h with h | h
      · exact (List.prefix_append l _).trans (goF_pre t c r f _ m h)
      · split at h
        · simp at h
        · exact (List.prefix_append l _).trans (goF_pre t c r f _ m h)
theorem pre_one {l m : List Int} {x y : Int} (h : l ++ [x] <+: m) (h' : l ++ [y] <+: m) : x = y := by
  have e := List.prefix_or_prefix_of_prefix h h'
  rcases e with e | e
  · have := e.eq_of_length (by simp); simpa using this
  · have := e.eq_of_length (by simp); exact (by simpa using this.symm)
theorem goF_nodup (t : List (List Int)) (c r : Nat) : ∀ f l, (goF t c r f l).Nodup
  | 0, l => by unfold goF; split <;> simp
  | f + 1, l => by
    unfold goF
    split
    · exact List.nodup_nil
    · rw [List.nodup_append]
      refine ⟨goF_nodup t c r f _, ?_, fun a ha b hb e => ?_⟩
      · split
        · exact List.nodup_nil
        · exact goF_nodup t c r f _
      · subst e
        split at hb
        · simp at hb
        · have := pre_one (goF_pre t c r f _ a ha) (goF_pre t c r f _ a hb)
          omega
theorem isRnd_two {x y : Int} (h0 : 0 ≤ x) (h : isRnd x y = true) : y = lowOf x ∨ (x % 10 ≠ 0 ∧ y = lowOf x + 10) := by
  unfold isRnd at h
  simp only [Bool.and_eq_true, beq_iff_eq, decide_eq_true_eq, inB_iff] at h
  obtain ⟨⟨⟨_, h1⟩, h2⟩, h3⟩ := h
  have h4 : y % 10 = 0 := by
    have := Int.tmod_eq_emod (a := y) (b := 10)
    rw [h1] at this
    split at this <;> omega
  unfold lowOf
  omega
theorem goF_all {t : List (List Int)} {c r : Nat} (F : TabF t c r) {m : List Int} (hm : m.length = r * c) (hR : isRounding t (rowsF c m r) = true) : ∀ f l, l.length + f = r * c → l = m.take l.length → m ∈ goF t c r f l
  | 0, l, hl, hp => by
    have : l = m := by rw [hp, List.take_of_length_le (by omega)]
    subst this
    unfold goF
    rw [if_pos hR]; simp
  | f + 1, l, hl, hp => by
    have hc := F.c1
    have hcl : (rx t 0).length = c := (F.row 0 F.r1).1
    obtain ⟨_, _, _, H⟩ := (isRounding_iff F.ok).1 hR
    rw [F.rl, hcl] at H
    have hcut : cutF t c l = false := by
      unfold cutF
      cases h0 : (l.length % c == 0) && decide (0 < l.length)
      · rfl
      · rw [Bool.and_eq_true, beq_iff_eq, decide_eq_true_eq] at h0
        obtain ⟨q, hq⟩ : ∃ q, l.length = q * c := ⟨l.length / c, by have := Nat.div_add_mod l.length c; rw [h0.1] at this; rw [Nat.mul_comm]; omega⟩
        have hd : l.length / c = q := by rw [hq]; exact Nat.mul_div_cancel _ hc
        have hq0 : 0 < q := by rcases Nat.eq_zero_or_pos q with e | e; · rw [e] at hq; omega
                               · exact e
        have hqr : q ≤ r := by
          rcases Nat.lt_or_ge r q with e | e
          · have : (r + 1) * c ≤ q * c := Nat.mul_le_mul_right c e
            rw [Nat.add_mul] at this; omega
          · exact e
        have e1 : rowF c l (q - 1) = rowF c m (q - 1) := by
          rw [hp, hq]
          unfold rowF
          have h2 : (q - 1) * c + c = q * c := by rw [← Nat.succ_mul]; congr 1; omega
          rw [List.drop_take, List.take_take, Nat.min_eq_left (by omega)]
        rw [hd, e1]
        have := H.row (q - 1) (by omega)
        rw [rx_rowsF (by omega)] at this
        rw [this]; rfl
    unfold goF
    rw [hcut, if_neg (by simp)]
    have hlt : l.length < m.length := by omega
    obtain ⟨h1, h2, h3, h4⟩ := F.at_ (p := l.length) (by omega)
    have hx := H.cell _ h1 _ h2
    have e3 : ix (rx (rowsF c m r) (l.length / c)) (l.length % c) = m[l.length] := by
      rw [rx_rowsF h1, ix_lt (by rw [rowF_len hm h1]; exact h2)]
      unfold rowF
      simp only [List.getElem_take, List.getElem_drop]
      congr 1
      have := Nat.div_add_mod l.length c
      rw [Nat.mul_comm] at this
      exact this
    rw [e3] at hx
    have nx : ∀ y, m[l.length] = y → (l ++ [y]).length + f = r * c ∧ l ++ [y] = m.take (l ++ [y]).length := fun y hy => by
      refine ⟨by simp; omega, ?_⟩
      rw [List.length_append, List.length_singleton, List.take_succ_eq_append_getElem hlt, hy, ← hp]
    rw [List.mem_append]
    rcases isRnd_two h3 hx with e | ⟨e, e'⟩
    · exact .inl (goF_all F hm hR f _ (nx _ e).1 (nx _ e).2)
    · right
      rw [if_neg e]
      exact goF_all F hm hR f _ (nx _ e').1 (nx _ e').2
theorem nodup_map_on {α β : Type} {f : α → β} : ∀ {l : List α}, l.Nodup → (∀ a ∈ l, ∀ b ∈ l, f a = f b → a = b) → (l.map f).Nodup
  | [], _, _ => by simp
  | x :: l, h, hi => by
    rw [List.nodup_cons] at h
    rw [List.map_cons, List.nodup_cons]
    refine ⟨fun hx => ?_, nodup_map_on h.2 fun a ha b hb => hi a (by simp [ha]) b (by simp [hb])⟩
    obtain ⟨y, hy, e⟩ := List.mem_map.1 hx
    have := hi y (by simp [hy]) x (by simp) e
    subst this
    exact h.1 hy
/-- all roundings of a table, the table being valid -/
def rndAll (t : List (List Int)) : List (List Int) := goF t (rx t 0).length t.length (t.length * (rx t 0).length) []
theorem rndAll_le {t : List (List Int)} (ht : tableOk t = true) : (rndAll t).length ≤ (rndAll (turnR t)).length := by
  have F := tab_facts ht
  have G := tab_facts (turn_ok ht)
  have c1 := F.c1
  have e : (rx (turnR t) 0).length = t.length := by rw [rx_turnR t 0 (by omega), colOf_len]
  rw [turnR_len, e] at G
  unfold rndAll
  rw [turnR_len, e]
  have sub : ∀ m ∈ goF t (rx t 0).length t.length (t.length * (rx t 0).length) [], isRounding t (rowsF (rx t 0).length m t.length) = true ∧ m.length = t.length * (rx t 0).length := fun m hm => by
    have := goF_mem _ _ _ _ _ m hm; simpa using this
  rw [← List.length_map (f := fun m => (turnR (rowsF (rx t 0).length m t.length)).flatten)]
  refine List.Nodup.length_le_of_subset (nodup_map_on (goF_nodup _ _ _ _ _) ?_) ?_
  · intro a ha b hb hab
    obtain ⟨a1, a2⟩ := sub a ha
    obtain ⟨b1, b2⟩ := sub b hb
    obtain ⟨a3, a4, a5, _⟩ := (isRounding_iff ht).1 a1
    obtain ⟨b3, b4, b5, _⟩ := (isRounding_iff ht).1 b1
    have fa := flat_rows (c := t.length) (t := turnR (rowsF (rx t 0).length a t.length)) fun xs hx => by
      have := rows_same (turn_ok a3) xs hx
      rw [this, rx_turnR _ 0 (by omega), colOf_len, a4]
    have fb := flat_rows (c := t.length) (t := turnR (rowsF (rx t 0).length b t.length)) fun xs hx => by
      have := rows_same (turn_ok b3) xs hx
      rw [this, rx_turnR _ 0 (by omega), colOf_len, b4]
    have hab' : (turnR (rowsF (rx t 0).length a t.length)).flatten = (turnR (rowsF (rx t 0).length b t.length)).flatten := hab
    rw [hab', turnR_len, a5] at fa
    rw [turnR_len, b5] at fb
    have e2 := fa.symm.trans fb
    have e3 := congrArg turnR e2
    rw [turn_turn a3, turn_turn b3] at e3
    have e4 := congrArg List.flatten e3
    rwa [flat_rowsF a2, flat_rowsF b2] at e4
  · intro y hy
    obtain ⟨m, hm, rfl⟩ := List.mem_map.1 hy
    obtain ⟨a1, a2⟩ := sub m hm
    obtain ⟨a3, a4, a5, _⟩ := (isRounding_iff ht).1 a1
    have hrow : ∀ xs ∈ turnR (rowsF (rx t 0).length m t.length), xs.length = t.length := fun xs hx => by
      have := rows_same (turn_ok a3) xs hx
      rw [this, rx_turnR _ 0 (by omega), colOf_len, a4]
    have fa := flat_rows hrow
    have fl := flat_len hrow
    rw [turnR_len, a5] at fa fl
    refine goF_all G fl ?_ _ [] (by simp) rfl
    rw [fa]
    exact rounding_turn ht a1
theorem rndAll_turn {t : List (List Int)} (ht : tableOk t = true) : (rndAll (turnR t)).length = (rndAll t).length := by
  have h1 := rndAll_le ht
  have h2 := rndAll_le (turn_ok ht)
  rw [turn_turn ht] at h2
  omega

theorem lsum3 : ∀ {xs : List Int}, xs.length ≤ 3 → lsum xs = ix xs 0 + ix xs 1 + ix xs 2
  | [], _ => rfl
  | [a], _ => by simp [lsum, ix]
  | [a, b], _ => by simp [lsum, ix]
  | [a, b, c], _ => by simp [lsum, ix]; omega
  | _ :: _ :: _ :: _ :: _, h => by simp at h
theorem isRnd_of {x y : Int} (h0 : 0 ≤ x) (h1 : x ≤ 100000) (h : Rd x y) : isRnd x y = true := by
  obtain ⟨a, b, c⟩ := h
  have : y.tmod 10 = 0 := by rw [Int.tmod_eq_emod_of_nonneg (by omega)]; exact a
  unfold isRnd
  simp only [Bool.and_eq_true, beq_iff_eq, decide_eq_true_eq, inB_iff]
  omega
def tabOf (f : Nat → Nat → Int) (r c : Nat) : List (List Int) := (List.range r).map fun i => (List.range c).map (f i)
theorem tabOf_len (f : Nat → Nat → Int) (r c : Nat) : (tabOf f r c).length = r := by simp [tabOf]
theorem rx_tabOf {f : Nat → Nat → Int} {r c i : Nat} (h : i < r) : rx (tabOf f r c) i = (List.range c).map (f i) := by
  rw [rx_lt (by rw [tabOf_len]; exact h)]; simp [tabOf]
theorem ix_tabOf {f : Nat → Nat → Int} {r c i k : Nat} (h0 : (r ≤ i ∨ c ≤ k) → f i k = 0) : ix (rx (tabOf f r c) i) k = f i k := by
  by_cases hi : i < r
  · rw [rx_tabOf hi]
    by_cases hk : k < c
    · rw [ix_lt (by simpa using hk)]; simp
    · rw [ix_ge (by simpa using hk), h0 (by omega)]
  · rw [h0 (by omega)]
    have : rx (tabOf f r c) i = [] := by unfold rx; simp [List.getD, List.getElem?_eq_none (Nat.le_trans (Nat.le_of_eq (tabOf_len f r c)) (Nat.le_of_not_lt hi))]
    rw [this]; rfl
theorem Rd_zero {y : Int} (h : Rd 0 y) : y = 0 := by unfold Rd at h; omega
theorem rounding_some {t : List (List Int)} (ht : tableOk t = true) (hr : t.length ≤ 3) (hc : (rx t 0).length ≤ 3) (hb : ∀ xs ∈ t, ∀ x ∈ xs, x ≤ 900) : ∃ R, isRounding t R = true := by
  have F := tab_facts ht
  have c1 := F.c1
  have r1 := F.r1
  obtain ⟨a', b', c', d', e', f', g', h', i', ⟨Ra, Rb, Rc, Rd', Re, Rf, Rg, Rh, Ri⟩, ⟨R1, R2, R3⟩, ⟨C1, C2, C3⟩, T⟩ :=
    round33 (ix (rx t 0) 0) (ix (rx t 0) 1) (ix (rx t 0) 2) (ix (rx t 1) 0) (ix (rx t 1) 1) (ix (rx t 1) 2) (ix (rx t 2) 0) (ix (rx t 2) 1) (ix (rx t 2) 2)
  let f : Nat → Nat → Int := fun i k => match i, k with
    | 0, 0 => a' | 0, 1 => b' | 0, 2 => c' | 1, 0 => d' | 1, 1 => e' | 1, 2 => f' | 2, 0 => g' | 2, 1 => h' | 2, 2 => i' | _, _ => 0
  have hf : ∀ i k, i < 3 → k < 3 → Rd (ix (rx t i) k) (f i k) := fun i k hi hk => by
    match i, k, hi, hk with
    | 0, 0, _, _ => exact Ra
    | 0, 1, _, _ => exact Rb
    | 0, 2, _, _ => exact Rc
    | 1, 0, _, _ => exact Rd'
    | 1, 1, _, _ => exact Re
    | 1, 2, _, _ => exact Rf
    | 2, 0, _, _ => exact Rg
    | 2, 1, _, _ => exact Rh
    | 2, 2, _, _ => exact Ri
    | i + 3, _, hi, _ => omega
    | _, k + 3, _, hk => omega
  have bd : ∀ i k, 0 ≤ ix (rx t i) k ∧ ix (rx t i) k ≤ 900 := fun i k => by
    by_cases hi : i < t.length
    · by_cases hk : k < (rx t i).length
      · exact ⟨((F.row i hi).2 k (by rw [← (F.row i hi).1]; exact hk)).1, hb _ (rx_mem hi) _ (ix_mem hk)⟩
      · rw [ix_ge (Nat.le_of_not_lt hk)]; omega
    · have : rx t i = [] := by unfold rx; simp [List.getD, List.getElem?_eq_none (Nat.le_of_not_lt hi)]
      rw [this]; exact ⟨Int.le_refl _, (by decide : (0 : Int) ≤ 900)⟩
  have f0 : ∀ i k, i < 3 → k < 3 → (t.length ≤ i ∨ (rx t 0).length ≤ k) → f i k = 0 := fun i k hi hk h => by
    have e : ix (rx t i) k = 0 := by
      by_cases hi' : i < t.length
      · exact ix_ge (by rw [(F.row i hi').1]; omega)
      · have : rx t i = [] := by unfold rx; simp [List.getD, List.getElem?_eq_none (Nat.le_of_not_lt hi')]
        rw [this]; rfl
    have := hf i k hi hk
    rw [e] at this
    exact Rd_zero this
  obtain ⟨R, hR⟩ : ∃ R, R = tabOf f t.length (rx t 0).length := ⟨_, rfl⟩
  have hRl : R.length = t.length := by rw [hR, tabOf_len]
  have hR0 : ∀ i, i < t.length → (rx R i).length = (rx t 0).length := fun i hi => by rw [hR, rx_tabOf hi]; simp
  have hRe : ∀ i k, i < 3 → k < 3 → ix (rx R i) k = f i k := fun i k hi hk => by rw [hR]; exact ix_tabOf (f0 i k hi hk)
  have hrow : ∀ i, lsum (rx t i) = ix (rx t i) 0 + ix (rx t i) 1 + ix (rx t i) 2 := fun i => by
    by_cases hi : i < t.length
    · exact lsum3 (by rw [(F.row i hi).1]; exact hc)
    · have : rx t i = [] := by unfold rx; simp [List.getD, List.getElem?_eq_none (Nat.le_of_not_lt hi)]
      rw [this]; rfl
  have hrowR : ∀ i, i < 3 → lsum (rx R i) = f i 0 + f i 1 + f i 2 := fun i h3 => by
    by_cases hi : i < t.length
    · rw [lsum3 (by rw [hR0 i hi]; exact hc), hRe i 0 h3 (by omega), hRe i 1 h3 (by omega), hRe i 2 h3 (by omega)]
    · have : rx R i = [] := by unfold rx; simp [List.getD, List.getElem?_eq_none (hRl ▸ Nat.le_of_not_lt hi)]
      rw [this, f0 i 0 h3 (by omega) (by omega), f0 i 1 h3 (by omega) (by omega), f0 i 2 h3 (by omega) (by omega)]; rfl
  have hcol : ∀ k, lsum (colOf t k) = ix (rx t 0) k + ix (rx t 1) k + ix (rx t 2) k := fun k => by
    rw [lsum3 (by rw [colOf_len]; exact hr), ix_col, ix_col, ix_col]
  have hcolR : ∀ k, k < 3 → lsum (colOf R k) = f 0 k + f 1 k + f 2 k := fun k h3 => by
    rw [lsum3 (by rw [colOf_len, hRl]; exact hr), ix_col, ix_col, ix_col, hRe 0 k (by omega) h3, hRe 1 k (by omega) h3, hRe 2 k (by omega) h3]
  have htot : lsum (rsums t) = lsum (rx t 0) + lsum (rx t 1) + lsum (rx t 2) := by
    rw [lsum3 (by rw [rsums_len]; exact hr), ix_rsums, ix_rsums, ix_rsums]
  have htotR : lsum (rsums R) = lsum (rx R 0) + lsum (rx R 1) + lsum (rx R 2) := by
    rw [lsum3 (by rw [rsums_len, hRl]; exact hr), ix_rsums, ix_rsums, ix_rsums]
  have hRok : tableOk R = true := by
    unfold tableOk rect
    rw [Bool.and_eq_true, Bool.and_eq_true, inB_iff, inB_iff, List.all_eq_true, hRl, hR0 0 r1]
    refine ⟨⟨by omega, by omega⟩, fun xs hx => ?_⟩
    obtain ⟨i, hi, rfl⟩ := List.getElem_of_mem hx
    rw [← rx_lt hi]
    rw [hRl] at hi
    unfold rowOk
    rw [Bool.and_eq_true, List.all_eq_true, hR0 i hi]
    refine ⟨by simp, fun x hx => ?_⟩
    obtain ⟨k, hk, rfl⟩ := List.getElem_of_mem hx
    rw [← ix_lt hk]
    rw [hR0 i hi] at hk
    rw [hRe i k (by omega) (by omega)]
    have h1 := hf i k (by omega) (by omega)
    have h2 := bd i k
    refine inB_iff.2 ?_
    unfold Rd at h1
    omega
  refine ⟨R, (isRounding_iff ht).2 ⟨hRok, hRl, hR0 0 r1, ⟨fun i hi k hk => ?_, fun i hi => ?_, fun k hk => ?_, ?_⟩⟩⟩
  · rw [hRe i k (by omega) (by omega)]
    have := bd i k
    exact isRnd_of (by omega) (by omega) (hf i k (by omega) (by omega))
  · have b0 := bd i 0; have b1 := bd i 1; have b2 := bd i 2
    rw [hrow i, hrowR i (by omega)]
    refine isRnd_of (by omega) (by omega) ?_
    match i, (show i < 3 by omega) with
    | 0, _ => exact R1
    | 1, _ => exact R2
    | 2, _ => exact R3
    | i + 3, h => omega
  · have b0 := bd 0 k; have b1 := bd 1 k; have b2 := bd 2 k
    rw [hcol k, hcolR k (by omega)]
    refine isRnd_of (by omega) (by omega) ?_
    match k, (show k < 3 by omega) with
    | 0, _ => exact C1
    | 1, _ => exact C2
    | 2, _ => exact C3
    | k + 3, h => omega
  · rw [htot, htotR, hrow, hrow, hrow, hrowR 0 (by omega), hrowR 1 (by omega), hrowR 2 (by omega)]
    have b := bd 0 0; have b1 := bd 0 1; have b2 := bd 0 2; have b3 := bd 1 0; have b4 := bd 1 1; have b5 := bd 1 2; have b6 := bd 2 0; have b7 := bd 2 1; have b8 := bd 2 2
    exact isRnd_of (by omega) (by omega) T
/-- a table of at most three rows and columns has a rounding in its list -/
theorem rndAll_some {t : List (List Int)} (ht : tableOk t = true) (hr : t.length ≤ 3) (hc : (rx t 0).length ≤ 3) (hb : ∀ xs ∈ t, ∀ x ∈ xs, x ≤ 900) : rndAll t ≠ [] := by
  have F := tab_facts ht
  obtain ⟨R, hR⟩ := rounding_some ht hr hc hb
  obtain ⟨a3, a4, a5, _⟩ := (isRounding_iff ht).1 hR
  have hrow : ∀ xs ∈ R, xs.length = (rx t 0).length := fun xs hx => by rw [rows_same a3 xs hx, a5]
  have fa := flat_rows hrow
  have fl := flat_len hrow
  rw [a4] at fa fl
  have := goF_all F fl (by rw [fa]; exact hR) (t.length * (rx t 0).length) [] (by simp) rfl
  exact List.ne_nil_of_mem this
end Go.Proofs.Ytefppihanblhmaa
