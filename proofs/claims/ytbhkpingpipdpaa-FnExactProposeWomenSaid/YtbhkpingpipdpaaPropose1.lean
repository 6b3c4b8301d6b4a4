/- Men propose: the state machine in plain Lean; no program is walked here. -/
import Derived.Test.YtbhkpingpipdpaaMkt
namespace Go.Proofs.Ytbhkpingpipdpaa
set_option linter.unusedVariables false
open Go.RowKit

theorem ixset {zs : List Int} {i k : Nat} {x : Int} (h : i < zs.length) : ix (zs.set i x) k = if k = i then x else ix zs k := by
  unfold ix
  simp only [List.getD, List.getElem?_set]
  by_cases e : i = k
  · subst e; simp [h]
  · simp [e, Ne.symm e]
theorem ix_rep {n j : Nat} {x : Int} (h : j < n) : ix (List.replicate n x) j = x := by rw [ix_lt (by simpa using h)]; simp
theorem sum_set : ∀ (xs : List Int) (i : Nat) (x : Int), i < xs.length → (xs.set i x).sum = xs.sum - ix xs i + x
  | [], i, x, h => by simp at h
  | a :: xs, 0, x, h => by simp [ix]; omega
  | a :: xs, i + 1, x, h => by
    have ih := sum_set xs i x (by simpa using h)
    have e : ix (a :: xs) (i + 1) = ix xs i := by simp [ix]
    rw [List.set_cons_succ, List.sum_cons, List.sum_cons, ih, e]
    omega
theorem sum_le : ∀ (xs : List Int) (m : Int), (∀ j, j < xs.length → ix xs j ≤ m) → xs.sum ≤ m * (xs.length : Int)
  | [], m, h => by simp
  | a :: xs, m, h => by
    have ih := sum_le xs m (fun j hj => by have := h (j + 1) (by simpa using hj); simpa [ix] using this)
    have h0 := h 0 (by simp)
    have e : ix (a :: xs) 0 = a := by simp [ix]
    rw [e] at h0
    rw [List.sum_cons, List.length_cons, Int.natCast_succ, Int.mul_add, Int.mul_one]
    omega

/-- whom each man has, whom each woman has (-1: nobody), how far each man has come, and how many proposals there were -/
structure PSt where
  wo : List Int
  ma : List Int
  ak : List Int
  cnt : Nat
def psI (s : PSt) : Nat := (place s.wo (-1)).toNat
def psW (xss : List (List Int)) (s : PSt) : Nat := (ix (rx xss (psI s)) (ix s.ak (psI s)).toNat).toNat
def psStep (xss yss : List (List Int)) (s : PSt) : PSt :=
  if decide (0 ≤ ix s.ma (psW xss s)) && pref (rx yss (psW xss s)) (ix s.ma (psW xss s)) (psI s) then ⟨s.wo, s.ma, s.ak.set (psI s) (ix s.ak (psI s) + 1), s.cnt + 1⟩
  else ⟨(if 0 ≤ ix s.ma (psW xss s) then s.wo.set (ix s.ma (psW xss s)).toNat (-1) else s.wo).set (psI s) (psW xss s : Int), s.ma.set (psW xss s) (psI s : Int), s.ak.set (psI s) (ix s.ak (psI s) + 1), s.cnt + 1⟩
def psRun (xss yss : List (List Int)) : Nat → PSt → PSt
  | 0, s => s
  | f + 1, s => if place s.wo (-1) < 0 then s else psRun xss yss f (psStep xss yss s)
def psInit (n : Nat) : PSt := ⟨List.replicate n (-1), List.replicate n (-1), List.replicate n 0, 0⟩

structure PGood (xss : List (List Int)) (s : PSt) : Prop where
  wl : s.wo.length = xss.length
  ml : s.ma.length = xss.length
  al : s.ak.length = xss.length
  wr : ∀ i, i < xss.length → ix s.wo i = -1 ∨ ∃ v : Nat, ix s.wo i = (v : Int) ∧ v < xss.length ∧ ix s.ma v = (i : Int)
  mr : ∀ v, v < xss.length → ix s.ma v = -1 ∨ ∃ i : Nat, ix s.ma v = (i : Int) ∧ i < xss.length ∧ ix s.wo i = (v : Int)
  ar : ∀ i, i < xss.length → 0 ≤ ix s.ak i ∧ ix s.ak i ≤ xss.length
  aq : ∀ i j : Nat, i < xss.length → (j : Int) < ix s.ak i → ∃ v p : Nat, ix (rx xss i) j = (v : Int) ∧ v < xss.length ∧ ix s.ma v = (p : Int)
  sm : s.ak.sum = (s.cnt : Int)

theorem good_init (xss : List (List Int)) : PGood xss (psInit xss.length) := by
  refine ⟨by simp [psInit], by simp [psInit], by simp [psInit], fun i hi => .inl (ix_rep hi), fun i hi => .inl (ix_rep hi), fun i hi => ?_, fun i j hi hj => ?_, ?_⟩
  · show 0 ≤ ix (List.replicate _ 0) i ∧ ix (List.replicate _ 0) i ≤ _
    rw [ix_rep hi]; omega
  · have hj : (j : Int) < ix (List.replicate xss.length 0) i := hj
    rw [ix_rep hi] at hj; omega
  · show (List.replicate _ (0 : Int)).sum = ((0 : Nat) : Int)
    induction xss.length with
    | zero => rfl
    | succ n ih => rw [List.replicate_succ, List.sum_cons, ih]; rfl

section
variable {xss yss : List (List Int)} {s : PSt} {i : Nat}
/-- a man who is free has not asked all -/
theorem ps_room (F : MarketF xss yss) (G : PGood xss s) (hi : i < xss.length) (h : ix s.wo i = -1) : ix s.ak i < xss.length := by
  have h0 := G.ar i hi
  by_cases h1 : ix s.ak i < xss.length
  · exact h1
  · exfalso
    -- every woman is engaged
    have hm : ∀ v, v < xss.length → ∃ k : Nat, ix s.ma v = (k : Int) ∧ k < xss.length ∧ ix s.wo k = (v : Int) := fun v hv => by
      have hmem := rank_has (F.mr i hi) (x := (v : Int)) (by omega) (by omega)
      obtain ⟨j, hj, e⟩ := List.getElem_of_mem hmem
      have hl := rank_len (F.mr i hi)
      obtain ⟨v', p, e1, h2, e2⟩ := G.aq i j hi (by omega)
      rw [ix_lt hj, e] at e1
      have : v = v' := by omega
      subst this
      rcases G.mr v hv with h3 | h3
      · omega
      · exact h3
    have hnd : s.ma.Nodup := by
      rw [List.nodup_iff_pairwise_ne, List.pairwise_iff_getElem]
      intro a b ha hb hab e
      obtain ⟨k, e1, h1, e2⟩ := hm a (by rw [← G.ml]; exact ha)
      obtain ⟨k', e1', h1', e2'⟩ := hm b (by rw [← G.ml]; exact hb)
      rw [ix_lt ha] at e1
      rw [ix_lt hb] at e1'
      have : k = k' := by omega
      subst this
      omega
    have hp := perm_of s.ma ((List.range xss.length).map fun (j : Nat) => (j : Int)) hnd (fun x hx => by
      obtain ⟨a, ha, rfl⟩ := List.getElem_of_mem hx
      obtain ⟨k, e1, h1, _⟩ := hm a (by rw [← G.ml]; exact ha)
      rw [ix_lt ha] at e1
      exact List.mem_map.2 ⟨k, List.mem_range.2 h1, e1.symm⟩) (by simp [G.ml])
    have hmem : (i : Int) ∈ s.ma := hp.mem_iff.1 (List.mem_map.2 ⟨i, List.mem_range.2 hi, rfl⟩)
    obtain ⟨a, ha, e⟩ := List.getElem_of_mem hmem
    obtain ⟨k, e1, h1, e2⟩ := hm a (by rw [← G.ml]; exact ha)
    rw [ix_lt ha, e] at e1
    have : i = k := by omega
    subst this
    omega
theorem ps_count (F : MarketF xss yss) (G : PGood xss s) (hi : i < xss.length) (h : ix s.wo i = -1) : s.cnt < xss.length * xss.length := by
  have h1 := ps_room F G hi h
  have h2 := sum_set s.ak i (xss.length : Int) (by rw [G.al]; exact hi)
  have h3 := sum_le (s.ak.set i (xss.length : Int)) (xss.length : Int) (fun j hj => by
    rw [List.length_set, G.al] at hj
    rw [ixset (by rw [G.al]; exact hi)]
    split
    · omega
    · exact (G.ar j hj).2)
  rw [List.length_set, G.al] at h3
  have h4 := G.sm
  have h5 : ((xss.length * xss.length : Nat) : Int) = (xss.length : Int) * (xss.length : Int) := by simp
  omega
theorem pref_flip {xs : List Int} {n : Nat} (h : rankOk n xs = true) {a b : Int} (ha : 0 ≤ a) (ha2 : a < n) (hb : 0 ≤ b) (hb2 : b < n) (hne : a ≠ b) : pref xs b a = !pref xs a b := by
  have h1 := rank_place h ha ha2
  have h2 := rank_place h hb hb2
  have h3 : place xs a ≠ place xs b := fun e => by
    have e1 := place_at h1.1
    have e2 := place_at h2.1
    rw [e] at e1
    exact hne (e1.symm.trans e2)
  unfold pref
  rw [decide_eq_true h1.1, decide_eq_true h2.1]
  simp only [Bool.true_and]
  by_cases h4 : place xs a < place xs b
  · rw [decide_eq_true h4, decide_eq_false (by omega)]; rfl
  · rw [decide_eq_false h4, decide_eq_true (by omega)]; rfl

theorem good_step (F : MarketF xss yss) (G : PGood xss s) {j v : Nat} (hi : i < xss.length) (hw : ix s.wo i = -1) (hj : ix s.ak i = (j : Int)) (hjl : j < xss.length) (hv : ix (rx xss i) j = (v : Int)) (hvl : v < xss.length) :
    (∀ p : Nat, ix s.ma v = (p : Int) → PGood xss ⟨s.wo, s.ma, s.ak.set i ((j : Int) + 1), s.cnt + 1⟩) ∧
    (ix s.ma v = -1 → PGood xss ⟨s.wo.set i (v : Int), s.ma.set v (i : Int), s.ak.set i ((j : Int) + 1), s.cnt + 1⟩) ∧
    (∀ p : Nat, ix s.ma v = (p : Int) → p < xss.length ∧ p ≠ i ∧ PGood xss ⟨(s.wo.set p (-1)).set i (v : Int), s.ma.set v (i : Int), s.ak.set i ((j : Int) + 1), s.cnt + 1⟩) := by
  have hil : i < s.wo.length := by rw [G.wl]; exact hi
  have hvm : v < s.ma.length := by rw [G.ml]; exact hvl
  have hia : i < s.ak.length := by rw [G.al]; exact hi
  have ar : ∀ k, k < xss.length → 0 ≤ ix (s.ak.set i ((j : Int) + 1)) k ∧ ix (s.ak.set i ((j : Int) + 1)) k ≤ xss.length := fun k hk => by
    rw [ixset hia]
    split
    · omega
    · exact G.ar k hk
  have sm : (s.ak.set i ((j : Int) + 1)).sum = ((s.cnt + 1 : Nat) : Int) := by
    rw [sum_set _ _ _ hia, G.sm, hj]; omega
  have aq : ∀ (ma : List Int), (∀ u (p : Nat), u < xss.length → ix s.ma u = (p : Int) → ∃ q : Nat, ix ma u = (q : Int)) → (∃ q : Nat, ix ma v = (q : Int)) → ∀ k l : Nat, k < xss.length → (l : Int) < ix (s.ak.set i ((j : Int) + 1)) k → ∃ u p : Nat, ix (rx xss k) l = (u : Int) ∧ u < xss.length ∧ ix ma u = (p : Int) := fun ma h1 h2 k l hk hl => by
    rw [ixset hia] at hl
    split at hl
    · rename_i e
      subst e
      by_cases e : l = j
      · subst e
        obtain ⟨q, e2⟩ := h2
        exact ⟨v, q, hv, hvl, e2⟩
      · obtain ⟨u, p, e1, h3, e2⟩ := G.aq k l hk (by omega)
        obtain ⟨q, e3⟩ := h1 u p h3 e2
        exact ⟨u, q, e1, h3, e3⟩
    · obtain ⟨u, p, e1, h3, e2⟩ := G.aq k l hk hl
      obtain ⟨q, e3⟩ := h1 u p h3 e2
      exact ⟨u, q, e1, h3, e3⟩
  have aq2 := aq (s.ma.set v (i : Int)) (fun u p hu e => by
    rw [ixset hvm]
    split
    · exact ⟨i, rfl⟩
    · exact ⟨p, e⟩) ⟨i, by rw [ixset hvm, if_pos rfl]⟩
  refine ⟨fun p hp => ⟨G.wl, G.ml, by simp [G.al], G.wr, G.mr, ar, aq s.ma (fun u q _ e => ⟨q, e⟩) ⟨p, hp⟩, sm⟩, fun hp => ⟨by simp [G.wl], by simp [G.ml], by simp [G.al], fun k hk => ?_, fun u hu => ?_, ar, aq2, sm⟩, fun p hp => ?_⟩
  · show ix (s.wo.set i (v : Int)) k = -1 ∨ ∃ u : Nat, ix (s.wo.set i (v : Int)) k = (u : Int) ∧ u < xss.length ∧ ix (s.ma.set v (i : Int)) u = (k : Int)
    rw [ixset hil]
    by_cases e : k = i
    · subst e
      rw [if_pos rfl]
      exact .inr ⟨v, rfl, hvl, by rw [ixset hvm, if_pos rfl]⟩
    · rw [if_neg e]
      rcases G.wr k hk with h | ⟨u, e1, h1, e2⟩
      · exact .inl h
      · refine .inr ⟨u, e1, h1, ?_⟩
        rw [ixset hvm, if_neg (by rintro rfl; omega)]
        exact e2
  · show ix (s.ma.set v (i : Int)) u = -1 ∨ ∃ k : Nat, ix (s.ma.set v (i : Int)) u = (k : Int) ∧ k < xss.length ∧ ix (s.wo.set i (v : Int)) k = (u : Int)
    rw [ixset hvm]
    by_cases e : u = v
    · subst e
      rw [if_pos rfl]
      exact .inr ⟨i, rfl, hi, by rw [ixset hil, if_pos rfl]⟩
    · rw [if_neg e]
      rcases G.mr u hu with h | ⟨k, e1, h1, e2⟩
      · exact .inl h
      · refine .inr ⟨k, e1, h1, ?_⟩
        rw [ixset hil, if_neg (by rintro rfl; omega)]
        exact e2
  · have hpp : p < xss.length ∧ ix s.wo p = (v : Int) := by
      rcases G.mr v hvl with h | ⟨k, e1, h1, e2⟩
      · omega
      · have : p = k := by omega
        subst this
        exact ⟨h1, e2⟩
    have hpi : p ≠ i := by rintro rfl; omega
    have hpl : p < s.wo.length := by rw [G.wl]; exact hpp.1
    have hil2 : i < (s.wo.set p (-1)).length := by rw [List.length_set]; exact hil
    refine ⟨hpp.1, hpi, by simp [G.wl], by simp [G.ml], by simp [G.al], fun k hk => ?_, fun u hu => ?_, ar, aq2, sm⟩
    · show ix ((s.wo.set p (-1)).set i (v : Int)) k = -1 ∨ ∃ u : Nat, ix ((s.wo.set p (-1)).set i (v : Int)) k = (u : Int) ∧ u < xss.length ∧ ix (s.ma.set v (i : Int)) u = (k : Int)
      rw [ixset hil2, ixset hpl]
      by_cases e : k = i
      · subst e
        rw [if_pos rfl]
        exact .inr ⟨v, rfl, hvl, by rw [ixset hvm, if_pos rfl]⟩
      · rw [if_neg e]
        by_cases e3 : k = p
        · subst e3; rw [if_pos rfl]; exact .inl rfl
        · rw [if_neg e3]
          rcases G.wr k hk with h | ⟨u, e1, h1, e2⟩
          · exact .inl h
          · refine .inr ⟨u, e1, h1, ?_⟩
            rw [ixset hvm, if_neg (by rintro rfl; omega)]
            exact e2
    · show ix (s.ma.set v (i : Int)) u = -1 ∨ ∃ k : Nat, ix (s.ma.set v (i : Int)) u = (k : Int) ∧ k < xss.length ∧ ix ((s.wo.set p (-1)).set i (v : Int)) k = (u : Int)
      rw [ixset hvm]
      by_cases e : u = v
      · subst e
        rw [if_pos rfl]
        exact .inr ⟨i, rfl, hi, by rw [ixset hil2, if_pos rfl]⟩
      · rw [if_neg e]
        rcases G.mr u hu with h | ⟨k, e1, h1, e2⟩
        · exact .inl h
        · refine .inr ⟨k, e1, h1, ?_⟩
          rw [ixset hil2, if_neg (by rintro rfl; omega), ixset hpl, if_neg (by rintro rfl; omega)]
          exact e2

/-- all that a round's walk asks -/
theorem ps_facts (F : MarketF xss yss) (G : PGood xss s) (hp : place s.wo (-1) = (i : Int)) :
    ∃ j v : Nat, i < xss.length ∧ ix s.wo i = -1 ∧ ix s.ak i = (j : Int) ∧ j < xss.length ∧ ix (rx xss i) j = (v : Int) ∧ v < xss.length ∧ s.cnt < xss.length * xss.length ∧
      PGood xss (psStep xss yss s) ∧
      ((ix s.ma v = -1 ∧ psStep xss yss s = ⟨s.wo.set i (v : Int), s.ma.set v (i : Int), s.ak.set i ((j : Int) + 1), s.cnt + 1⟩) ∨
       ∃ p : Nat, ix s.ma v = (p : Int) ∧ p < xss.length ∧
        ((pref (rx yss v) (p : Int) (i : Int) = true ∧ pref (rx yss v) (i : Int) (p : Int) = false ∧ psStep xss yss s = ⟨s.wo, s.ma, s.ak.set i ((j : Int) + 1), s.cnt + 1⟩) ∨
         (pref (rx yss v) (p : Int) (i : Int) = false ∧ pref (rx yss v) (i : Int) (p : Int) = true ∧ psStep xss yss s = ⟨(s.wo.set p (-1)).set i (v : Int), s.ma.set v (i : Int), s.ak.set i ((j : Int) + 1), s.cnt + 1⟩))) := by
  have h1 := place_bd s.wo (-1)
  have h2 := place_at (xs := s.wo) (a := -1) (by omega)
  rw [hp, Int.toNat_natCast] at h2
  have hil : i < xss.length := by rw [← G.wl]; omega
  have hrm := ps_room F G hil h2
  have har := G.ar i hil
  obtain ⟨j, hj⟩ : ∃ j : Nat, ix s.ak i = (j : Int) := ⟨(ix s.ak i).toNat, by omega⟩
  have hjl : j < xss.length := by omega
  have hrow := (rankOk_facts (F.mr i hil)).2.2
  have hvb := hrow.2 j (by omega)
  obtain ⟨v, hv⟩ : ∃ v : Nat, ix (rx xss i) j = (v : Int) := ⟨(ix (rx xss i) j).toNat, by omega⟩
  have hvl : v < xss.length := by omega
  have eI : psI s = i := by unfold psI; rw [hp]; rfl
  have eW : psW xss s = v := by unfold psW; rw [eI, hj, Int.toNat_natCast, hv]; rfl
  obtain ⟨g1, g2, g3⟩ := good_step F G hil h2 hj hjl hv hvl
  refine ⟨j, v, hil, h2, hj, hjl, hv, hvl, ps_count F G hil h2, ?_⟩
  have eS : psStep xss yss s = if decide (0 ≤ ix s.ma v) && pref (rx yss v) (ix s.ma v) (i : Int) then ⟨s.wo, s.ma, s.ak.set i ((j : Int) + 1), s.cnt + 1⟩
      else ⟨(if 0 ≤ ix s.ma v then s.wo.set (ix s.ma v).toNat (-1) else s.wo).set i (v : Int), s.ma.set v (i : Int), s.ak.set i ((j : Int) + 1), s.cnt + 1⟩ := by
    unfold psStep
    rw [eI, eW, hj]
  rcases G.mr v hvl with hm | ⟨p, hm, hpl, _⟩
  · rw [hm] at eS
    have eS' : psStep xss yss s = ⟨s.wo.set i (v : Int), s.ma.set v (i : Int), s.ak.set i ((j : Int) + 1), s.cnt + 1⟩ := by
      rw [eS, if_neg (by simp), if_neg (by omega)]
    exact ⟨by rw [eS']; exact g2 hm, .inl ⟨hm, eS'⟩⟩
  · obtain ⟨q1, q2, q3⟩ := g3 p hm
    have hfl := pref_flip (F.wr v hvl) (a := (i : Int)) (b := (p : Int)) (by omega) (by omega) (by omega) (by omega) (by omega)
    rw [hm] at eS
    cases hpr : pref (rx yss v) (p : Int) (i : Int)
    · rw [hpr] at eS hfl
      have eS' : psStep xss yss s = ⟨(s.wo.set p (-1)).set i (v : Int), s.ma.set v (i : Int), s.ak.set i ((j : Int) + 1), s.cnt + 1⟩ := by
        rw [eS, if_neg (by simp), if_pos (by omega), Int.toNat_natCast]
      exact ⟨by rw [eS']; exact q3, .inr ⟨p, hm, hpl, .inr ⟨hpr, by simpa using hfl.symm, eS'⟩⟩⟩
    · rw [hpr] at eS hfl
      have eS' : psStep xss yss s = ⟨s.wo, s.ma, s.ak.set i ((j : Int) + 1), s.cnt + 1⟩ := by
        rw [eS, if_pos (by simp)]
      exact ⟨by rw [eS']; exact g1 p hm, .inr ⟨p, hm, hpl, .inl ⟨hpr, by simpa using hfl.symm, eS'⟩⟩⟩
end
theorem psRun_step {xss yss : List (List Int)} {s : PSt} {f i : Nat} (h : place s.wo (-1) = (i : Int)) : psRun xss yss (f + 1) s = psRun xss yss f (psStep xss yss s) := by
  rw [psRun, if_neg (by omega)]
theorem psRun_end {xss yss : List (List Int)} {s : PSt} (f : Nat) (h : place s.wo (-1) < 0) : psRun xss yss f s = s := by
  cases f with
  | zero => rfl
  | succ f => rw [psRun, if_pos h]
theorem psRun_good {xss yss : List (List Int)} (F : MarketF xss yss) : ∀ (f : Nat) (s : PSt), PGood xss s → PGood xss (psRun xss yss f s)
  | 0, s, h => h
  | f + 1, s, h => by
    rw [psRun]
    split
    · exact h
    · obtain ⟨i, hi⟩ : ∃ i : Nat, place s.wo (-1) = (i : Int) := ⟨(place s.wo (-1)).toNat, by omega⟩
      obtain ⟨j, v, h1, h2, h3, h4, h5, h6, h7, h8, _⟩ := ps_facts F h hi
      exact psRun_good F f _ h8
def propose (xss yss : List (List Int)) : PSt := if marketOk xss yss then psRun xss yss (xss.length * xss.length) (psInit xss.length) else ⟨[], [], [], 0⟩
theorem propose_no {xss yss : List (List Int)} (h : marketOk xss yss = false) : propose xss yss = ⟨[], [], [], 0⟩ := by unfold propose; rw [h]; rfl
theorem propose_yes {xss yss : List (List Int)} (h : marketOk xss yss = true) : propose xss yss = psRun xss yss (xss.length * xss.length) (psInit xss.length) := by unfold propose; rw [h]; rfl
def propList (xss yss : List (List Int)) : List Int := (propose xss yss).wo
def propCnt (xss yss : List (List Int)) : Int := ((propose xss yss).cnt : Int)
theorem propList_len {xss yss : List (List Int)} : (propList xss yss).length ≤ 5 := by
  unfold propList
  cases h : marketOk xss yss
  · rw [propose_no h]; simp
  · rw [propose_yes h]
    have F := market_facts h
    rw [(psRun_good F _ _ (good_init xss)).wl]
    exact F.hi

section
variable {w0 : World} {A : Option Addr} {c : Nat} {xss : List (List Int)} {B : Option Addr} {d : Nat} {yss : List (List Int)} {g1 g2 g3 : Nat} {wo ma ak : List Int} {W : World}
/-- the same, the market below a border that the three rows lie behind -/
structure PBase (w0 : World) (A : Option Addr) (c : Nat) (xss : List (List Int)) (B : Option Addr) (d : Nat) (yss : List (List Int)) (w1 : World) (g1 g2 g3 : Nat) : Prop where
  k : MktAt w1 w0.heap.size A xss.length c xss B yss.length d yss
  b : Below w0.heap.size w0 w1
  l1 : w1.heap.size ≤ g1
  l2 : w1.heap.size ≤ g2
  l3 : w1.heap.size ≤ g3
  n12 : g1 ≠ g2
  n13 : g1 ≠ g3
  n23 : g2 ≠ g3
structure PMm (w1 : World) (n g1 g2 g3 : Nat) (wo ma ak : List Int) (W : World) : Prop where
  o1 : OwnI W g1 (g1 + 1) (.slice (some ⟨g1, 0, none⟩) n n) wo
  o2 : OwnI W g2 (g2 + 1) (.slice (some ⟨g2, 0, none⟩) n n) ma
  o3 : OwnI W g3 (g3 + 1) (.slice (some ⟨g3, 0, none⟩) n n) ak
  bel : Below w1.heap.size w1 W
theorem PMm.drewN {w1 : World} {n : Nat} (h : PMm w1 n g1 g2 g3 wo ma ak W) (m : Nat) : PMm w1 n g1 g2 g3 wo ma ak (W.drewN m) := ⟨h.o1.drewN m, h.o2.drewN m, h.o3.drewN m, below_drewN h.bel m⟩
theorem PBase.mkt {w1 : World} {n : Nat} (P : PBase w0 A c xss B d yss w1 g1 g2 g3) (h : PMm w1 n g1 g2 g3 wo ma ak W) : MktAt W w0.heap.size A xss.length c xss B yss.length d yss := P.k.below h.bel
theorem PBase.bel {w1 : World} {n : Nat} (P : PBase w0 A c xss B d yss w1 g1 g2 g3) (h : PMm w1 n g1 g2 g3 wo ma ak W) : Below w0.heap.size w0 W := P.b.trans (h.bel.mono P.b.size)
theorem PBase.st1 {w1 : World} {n : Nat} (P : PBase w0 A c xss B d yss w1 g1 g2 g3) (h : PMm w1 n g1 g2 g3 wo ma ak W) (i : Nat) (x : Int) : PMm w1 n g1 g2 g3 (wo.set i x) ma ak (W.setCell ⟨g1, i, none⟩ (.int .i64 x)) := by
  obtain ⟨a, b⟩ := h.o1.stored i x
  have := P.n12; have := P.n13
  exact ⟨a, h.o2.only b (by omega), h.o3.only b (by omega), h.bel.trans (b.toBelow P.l1 h.bel.size)⟩
theorem PBase.st2 {w1 : World} {n : Nat} (P : PBase w0 A c xss B d yss w1 g1 g2 g3) (h : PMm w1 n g1 g2 g3 wo ma ak W) (i : Nat) (x : Int) : PMm w1 n g1 g2 g3 wo (ma.set i x) ak (W.setCell ⟨g2, i, none⟩ (.int .i64 x)) := by
  obtain ⟨a, b⟩ := h.o2.stored i x
  have := P.n12; have := P.n23
  exact ⟨h.o1.only b (by omega), a, h.o3.only b (by omega), h.bel.trans (b.toBelow P.l2 h.bel.size)⟩
theorem PBase.st3 {w1 : World} {n : Nat} (P : PBase w0 A c xss B d yss w1 g1 g2 g3) (h : PMm w1 n g1 g2 g3 wo ma ak W) (i : Nat) (x : Int) : PMm w1 n g1 g2 g3 wo ma (ak.set i x) (W.setCell ⟨g3, i, none⟩ (.int .i64 x)) := by
  obtain ⟨a, b⟩ := h.o3.stored i x
  have := P.n13; have := P.n23
  exact ⟨h.o1.only b (by omega), h.o2.only b (by omega), a, h.bel.trans (b.toBelow P.l3 h.bel.size)⟩
end
end Go.Proofs.Ytbhkpingpipdpaa
