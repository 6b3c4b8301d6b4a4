/- Winners of valid profiles are candidates: plain facts. No program is walked here. Votes of the call's own: each with a ranking of its own. Lists of numbers and rows of them, copied. A profile in new memory, the program's side: clone. -/
import Derived.Test.YtcjnjnegaoihoaaGreatW16
import Derived.Test.YtcjnjnegaoihoaaGreatW03
import Derived.Test.YtcjnjnegaoihoaaGreatW11
import Derived.Deep.RegionLaw
import Derived.Test.YtcjnjnegaoihoaaGreatW07
import Derived.Test.YtcjnjnegaoihoaaGreatW01
namespace Go.Proofs.YtcjnjnegaoihoaaGreat
set_option linter.unusedSimpArgs false
set_option linter.unusedVariables false
set_option linter.unusedVariables false
open Go.RowKit

/-- one pass over all pairs -/
def fwT (f : Nat → Nat → Int) (o a c : Nat) : Int := if a = c then f a c else max (f a c) (min (f a o) (f o c))
theorem fwT_col (f : Nat → Nat → Int) (o a : Nat) : fwT f o a o = f a o := by
  unfold fwT
  split
  · rfl
  · omega
theorem fwT_row (f : Nat → Nat → Int) (o c : Nat) : fwT f o o c = f o c := by
  unfold fwT
  split
  · rfl
  · omega
theorem fwB_eq {f g : Nat → Nat → Int} {o a : Nat} {p : Nat → Nat → Bool} (hp : ∀ c, p a c = false) (hg : ∀ i c, g i c = if p i c then fwT f o i c else f i c) :
    ∀ j, ∀ i c, fwB g o a j i c = if p i c || (i == a && decide (c < j)) then fwT f o i c else f i c := by
  intro j
  induction j with
  | zero => intro i c; rw [fwB, hg]; simp
  | succ j ih =>
    intro i c
    have col : fwB g o a j a o = f a o := by rw [ih]; split <;> first | exact fwT_col f o a | rfl
    have row : fwB g o a j o j = f o j := by rw [ih]; split <;> first | exact fwT_row f o j | rfl
    have at_ : fwB g o a j a j = f a j := by rw [ih, hp]; simp
    rw [fwB, fwStep]
    by_cases haj : a = j
    · rw [if_pos haj, ih]
      by_cases hic : i = a ∧ c = j
      · obtain ⟨rfl, rfl⟩ := hic
        subst haj
        have e : fwT f o i i = f i i := by unfold fwT; rw [if_pos rfl]
        rw [e]; simp
      · have e : (p i c || (i == a && decide (c < j + 1))) = (p i c || (i == a && decide (c < j))) := by
          congr 1
          by_cases h1 : i = a
          · have h2 : c ≠ j := fun h => hic ⟨h1, h⟩
            rw [show decide (c < j + 1) = decide (c < j) by rw [decide_eq_decide]; omega]
          · have : (i == a) = false := by rw [beq_eq_false_iff_ne]; exact h1
            rw [this]; rfl
        rw [e]
    · rw [if_neg haj, upd2, at_, col, row]
      by_cases h1 : i = a
      · subst h1
        rw [if_pos rfl]
        by_cases h2 : c = j
        · subst h2
          rw [if_pos rfl, hp]
          simp only [beq_self_eq_true, Bool.false_or, Bool.true_and]
          rw [if_pos (decide_eq_true (Nat.lt_succ_self _))]
          unfold fwT
          rw [if_neg haj]
        · rw [if_neg h2, ih, show decide (c < j + 1) = decide (c < j) by rw [decide_eq_decide]; omega]
      · rw [if_neg h1, ih]
        have : (i == a) = false := by rw [beq_eq_false_iff_ne]; exact h1
        rw [this]; rfl
theorem fwA_eq (f : Nat → Nat → Int) (M o : Nat) : ∀ a, ∀ i c, fwA f M o a i c = if decide (i < a) && decide (c < M) then fwT f o i c else f i c := by
  intro a
  induction a with
  | zero => intro i c; rw [fwA]; simp
  | succ a ih =>
    intro i c
    rw [fwA, fwB_eq (f := f) (p := fun i c => decide (i < a) && decide (c < M)) (fun c => by simp) ih M i c]
    congr 1
    by_cases h1 : i = a
    · subst h1; simp
    · have : (i == a) = false := by rw [beq_eq_false_iff_ne]; exact h1
      rw [this, show decide (i < a + 1) = decide (i < a) by rw [decide_eq_decide]; omega]; simp
/-- no way over one that was passed is stronger than the direct one -/
theorem fwO_closed (f : Nat → Nat → Int) (M : Nat) : ∀ o, o ≤ M → ∀ k a c, k < o → a < M → c < M → a ≠ c → min (fwO f M o a k) (fwO f M o k c) ≤ fwO f M o a c := by
  intro o
  induction o with
  | zero => intro _ k a c hk; omega
  | succ o ih =>
    intro ho k a c hk ha hc hac
    have E : ∀ i c, i < M → c < M → fwO f M (o + 1) i c = fwT (fwO f M o) o i c := fun i c hi hc => by
      rw [fwO, fwA_eq, decide_eq_true hi, decide_eq_true hc]; rfl
    have IH := fun k a c h1 h2 h3 h4 => ih (by omega) k a c h1 h2 h3 h4
    rw [E a c ha hc, E a k ha (by omega), E k c (by omega) hc]
    generalize fwO f M o = s at *
    by_cases hko : k = o
    · subst hko
      rw [fwT_col, fwT_row, fwT, if_neg hac]
      omega
    · have hk' : k < o := by omega
      by_cases e1 : a = k
      · subst e1
        omega
      · by_cases e2 : k = c
        · subst e2
          omega
        · have q1 := IH k a c hk' ha hc hac
          have q2 : a ≠ o → min (s a k) (s k o) ≤ s a o := fun h => IH k a o hk' ha (by omega) h
          have q3 : o ≠ c → min (s o k) (s k c) ≤ s o c := fun h => IH k o c hk' (by omega) hc h
          unfold fwT
          rw [if_neg hac, if_neg e1, if_neg e2]
          by_cases e3 : a = o
          · subst e3
            have := q3 (by omega)
            omega
          · by_cases e4 : o = c
            · subst e4
              have := q2 e3
              omega
            · have := q2 e3
              have := q3 e4
              omega
/-- of finitely many there is one that none is ahead of -/
theorem top_of (M : Nat) (h : 0 < M) (r : Nat → Nat → Prop) (irr : ∀ a, ¬ r a a) (tr : ∀ a b c, a < M → b < M → c < M → r a b → r b c → r a c) : ∃ a, a < M ∧ ∀ b, b < M → ¬ r b a := by
  have key : ∀ n, 0 < n → n ≤ M → ∃ a, a < n ∧ ∀ b, b < n → ¬ r b a := by
    intro n
    induction n with
    | zero => intro h; omega
    | succ n ih =>
      intro _ hn
      by_cases h0 : n = 0
      · subst h0
        exact ⟨0, by omega, fun b hb => by obtain rfl : b = 0 := by omega
                                           exact irr 0⟩
      · obtain ⟨a, ha, hb⟩ := ih (by omega) (by omega)
        by_cases hr : r n a
        · refine ⟨n, by omega, fun b hbn hrb => ?_⟩
          by_cases e : b = n
          · subst e; exact irr b hrb
          · exact hb b (by omega) (tr b n a (by omega) (by omega) (by omega) hrb hr)
        · refine ⟨a, by omega, fun b hbn hrb => ?_⟩
          by_cases e : b = n
          · subst e; exact hr hrb
          · exact hb b (by omega) hrb
  exact key M h (Nat.le_refl _)
theorem thoseTo_mem {M : Nat} {p : Int → Int → Bool} : ∀ {k : Nat} {x : Int}, x ∈ thoseTo M p k ↔ ∃ j : Nat, j < k ∧ x = (j : Int) ∧ ∀ b, b < M → (j == b || p (j : Int) (b : Int)) = true
  | 0, x => by simp [thoseTo]
  | k + 1, x => by
    rw [thoseTo, List.mem_append, thoseTo_mem]
    constructor
    · rintro (⟨j, hj, e, h⟩ | h)
      · exact ⟨j, by omega, e, h⟩
      · split at h
        · rename_i ha
          rw [List.mem_singleton] at h
          exact ⟨k, by omega, h, allN_iff.1 ha⟩
        · simp at h
    · rintro ⟨j, hj, e, h⟩
      by_cases ejk : j = k
      · subst ejk
        right
        rw [if_pos (allN_iff.2 h), e]; simp
      · exact .inl ⟨j, by omega, e, h⟩
theorem schulze_some {m : Int} {vs : List Vt} (hp : profOk m vs = true) : 0 < (schulzeR m vs).length ∧ ∀ x ∈ schulzeR m vs, 0 ≤ x ∧ x < m := by
  have F := pf_of hp
  obtain ⟨M, rfl⟩ : ∃ M : Nat, m = (M : Int) := ⟨m.toNat, by have := F.m1; omega⟩
  have M1 : 0 < M := by have := F.m1; omega
  unfold schulzeR thoseR thoseP
  rw [hp, if_pos rfl, Int.toNat_natCast]
  have hcl := fun k a c => fwO_closed (strI vs) M M (Nat.le_refl _) k a c
  have hs : strength vs M = fwO (strI vs) M M := rfl
  rw [← hs] at hcl
  generalize strength vs M = s at *
  constructor
  · obtain ⟨a, ha, hb⟩ := top_of M M1 (fun x y => s y x < s x y ∧ x ≠ y) (fun a h => h.2 rfl) (fun a b c ha hb hc h1 h2 => by
      have hac : a ≠ c := by rintro rfl; omega
      have q1 := hcl b a c hb ha hc hac
      have q2 := hcl b c a hb hc ha (Ne.symm hac)
      have q3 := hcl c b a hc hb ha (Ne.symm h1.2)
      have q4 := hcl a c b ha hc hb (Ne.symm h2.2)
      have := h1.1
      have := h2.1
      have q5 := hcl a b c ha hb hc h2.2
      have q6 := hcl c a b hc ha hb h1.2
      refine ⟨?_, hac⟩
      omega)
    refine List.length_pos_of_mem (a := (a : Int)) (thoseTo_mem.2 ⟨a, ha, rfl, fun b hbM => ?_⟩)
    by_cases e : a = b
    · subst e; simp
    · have := hb b hbM
      have h2 : s b a ≤ s a b := by
        by_cases h : s b a ≤ s a b
        · exact h
        · exact absurd ⟨by omega, Ne.symm e⟩ this
      unfold schulF
      simp [h2]
  · intro x hx
    obtain ⟨j, hj, rfl, _⟩ := thoseTo_mem.1 hx
    omega
theorem greatTo_mem {xs : List Int} : ∀ {k : Nat} {x : Int}, x ∈ greatTo xs k ↔ ∃ j : Nat, j < k ∧ x = (j : Int) ∧ ix xs j = lmax xs
  | 0, x => by simp [greatTo]
  | k + 1, x => by
    rw [greatTo, List.mem_append, greatTo_mem]
    constructor
    · rintro (⟨j, hj, e, h⟩ | h)
      · exact ⟨j, by omega, e, h⟩
      · split at h
        · rename_i ha
          rw [List.mem_singleton] at h
          exact ⟨k, by omega, h, ha⟩
        · simp at h
    · rintro ⟨j, hj, e, h⟩
      by_cases ejk : j = k
      · subst ejk
        right
        rw [if_pos h, e]; simp
      · exact .inl ⟨j, by omega, e, h⟩
theorem greatest_bd {xs : List Int} {m : Int} (h : (xs.length : Int) = m) (h0 : 1 ≤ m) : 0 < (greatest xs).length ∧ ∀ x ∈ greatest xs, 0 ≤ x ∧ x < m := by
  refine ⟨greatest_pos (by omega), fun x hx => ?_⟩
  obtain ⟨j, hj, rfl, _⟩ := greatTo_mem.1 hx
  omega
theorem elim_mem (wf : List Int → Int → Int) : ∀ k (left : List Int), k ≤ left.length → ∀ x ∈ elim wf k left, x ∈ left
  | 0, left, _, x, h => by simp [elim] at h
  | k + 1, left, hk, x, h => by
    have hw : worst wf left < left.length := worstTo_lt _ _ _ (by omega)
    rw [elim, List.mem_cons] at h
    rcases h with rfl | h
    · exact ix_mem hw
    · exact List.mem_of_mem_eraseIdx (elim_mem wf k _ (by rw [List.length_eraseIdx, if_pos hw]; omega) x h)
theorem upE_bd {M : Nat} {x : Int} (h : x ∈ upE M) : 0 ≤ x ∧ x < M := by
  obtain ⟨j, hj, rfl⟩ := upE_mem h
  omega
theorem last_mem {xs : List Int} (h : 0 < xs.length) : lastI xs ∈ xs := by
  unfold lastI
  rw [if_neg (by omega)]
  exact ix_mem (by omega)
theorem elimR_bd {wf : List Int → Int → Int} {m : Int} {vs : List Vt} (hp : profOk m vs = true) : 0 ≤ lastI (elimR wf m vs) ∧ lastI (elimR wf m vs) < m := by
  have F := pf_of hp
  have h : elimR wf m vs = elim wf m.toNat (upE m.toNat) := by unfold elimR; rw [hp]; rfl
  rw [h]
  have m1 := F.m1
  have h1 := last_mem (xs := elim wf m.toNat (upE m.toNat)) (by rw [elim_len]; omega)
  have h2 := upE_bd (elim_mem wf _ _ (by rw [upE_len]; exact Nat.le_refl _) _ h1)
  omega
theorem runoff_bd {m : Int} {vs : List Vt} (hp : profOk m vs = true) : 0 ≤ runoffW m vs ∧ runoffW m vs < m := by
  have F := pf_of hp
  have m1 := F.m1
  unfold runoffW
  rw [hp, if_pos rfl]
  by_cases h1 : m = 1
  · rw [if_pos h1]; omega
  · rw [if_neg h1]
    have a0 := sortS_at (rs := scores m vs (plurW m)) (k := m.toNat) (j := 0) (by omega)
    have a1 := sortS_at (rs := scores m vs (plurW m)) (k := m.toNat) (j := 1) (by omega)
    unfold roT
    split <;> omega
theorem bucklin_bd {m : Int} {vs : List Vt} (hp : profOk m vs = true) : 0 ≤ bucklinW m vs ∧ bucklinW m vs < m := by
  have F := pf_of hp
  have m1 := F.m1
  have hl : 0 ≤ buckLevel m vs := by
    unfold buckLevel
    rw [hp, if_pos rfl]
    split <;> omega
  unfold bucklinW
  split
  · omega
  · have h := greatest_bd (xs := amongL m vs (buckLevel m vs)) (m := m) (by rw [amongL_len]; omega) m1
    exact h.2 _ (ix_mem h.1)
theorem prk_bd {kept : List (List Int)} (ha : Acyc kept) : ∀ k (left : List Int), k ≤ left.length → ∀ x ∈ prk kept k left, x ∈ left
  | 0, left, _, x, h => by simp [prk] at h
  | k + 1, left, hk, x, h => by
    have hw := (freeAt_ok ha (left := left) (by omega)).2.1
    rw [prk, List.mem_cons] at h
    rcases h with rfl | h
    · exact ix_mem hw
    · exact List.mem_of_mem_eraseIdx (prk_bd ha k _ (by rw [List.length_eraseIdx, if_pos hw]; omega) x h)
theorem winners_bd {rule m : Int} {vs : List Vt} (hp : profOk m vs = true) (h1 : 1 ≤ rule) (h13 : rule ≤ 13) : 0 < (winnersR rule m vs).length ∧ ∀ x ∈ winnersR rule m vs, 0 ≤ x ∧ x < m := by
  have F := pf_of hp
  have m1 := F.m1
  have m5 := F.m5
  rw [winnersR_yes hp]
  have one : ∀ y : Int, 0 ≤ y ∧ y < m → 0 < [y].length ∧ ∀ x ∈ [y], 0 ≤ x ∧ x < m := fun y hy => ⟨by simp, fun x hx => by rw [List.mem_singleton] at hx; subst hx; exact hy⟩
  have sc : ∀ ws, weightsOk m ws = true → 0 < (greatest (scoresR m vs ws)).length ∧ ∀ x ∈ greatest (scoresR m vs ws), 0 ≤ x ∧ x < m := fun ws hw => by
    refine greatest_bd ?_ m1
    unfold scoresR
    rw [hp, hw]
    show (((scores m vs ws).length : Nat) : Int) = m
    rw [scores_len]; omega
  unfold winnersP
  obtain rfl | rfl | rfl | rfl | rfl | rfl | rfl | rfl | rfl | rfl | rfl | rfl | rfl : rule = 1 ∨ rule = 2 ∨ rule = 3 ∨ rule = 4 ∨ rule = 5 ∨ rule = 6 ∨ rule = 7 ∨ rule = 8 ∨ rule = 9 ∨ rule = 10 ∨ rule = 11 ∨ rule = 12 ∨ rule = 13 := by omega
  all_goals simp only [Int.reduceEq, if_true, if_false]
  · exact sc _ (plur_ok m1 m5)
  · exact sc _ (bord_ok m1 m5)
  · exact sc _ (veto_ok m1 m5)
  · refine greatest_bd ?_ m1
    unfold copelandR; rw [hp, if_pos rfl, copeland, lfn_len]; omega
  · refine greatest_bd ?_ m1
    unfold maximinR; rw [hp, if_pos rfl, maximin, lfn_len]; omega
  · exact one _ (runoff_bd hp)
  · exact one _ (elimR_bd hp)
  · exact one _ (elimR_bd hp)
  · exact one _ (elimR_bd hp)
  · exact one _ (bucklin_bd hp)
  · exact schulze_some hp
  · refine one _ ?_
    have h0 := ix_mem (pairsRank_len F)
    have := upE_bd (prk_bd (lockedP_acyc vs m.toNat) _ _ (by rw [upE_len]; exact Nat.le_refl _) _ h0)
    omega
  · refine one _ ?_
    have h0 := rank_some m1 m5
    have h1 := rank_all' m1 m5 (rx_mem (minIx_lt (kem vs) (allRankings m) _ h0))
    have h2 := rankOk_facts h1
    exact h2.2.2.2 0 (by have := h2.2.2.1; omega)
theorem winner_bd {rule m : Int} {vs : List Vt} (hp : profOk m vs = true) (h1 : 1 ≤ rule) (h13 : rule ≤ 13) : 0 ≤ winnerR rule m vs ∧ winnerR rule m vs < m := by
  obtain ⟨h2, h3⟩ := winners_bd hp h1 h13
  unfold winnerR
  rw [if_neg (by omega)]
  exact h3 _ (ix_mem h2)
end Go.Proofs.YtcjnjnegaoihoaaGreat
namespace Go.Proofs.YtcjnjnegaoihoaaGreat
set_option linter.unusedSimpArgs false
set_option linter.unusedVariables false
set_option linter.unusedVariables false
open Go.RowKit

theorem infoV : (Tryz.prog.info? 46).map (fun i => (i.zero, i.size, i.bytes)) = some (some (.agg #[.slice none 0 0, .int .i64 0]), 2, 32) := by kernel_rfl
/-- a vote: its ranking's slice and what it is -/
abbrev VE := Value × Vt
def flatV (Z : List VE) : List Value := Z.flatMap fun p => [p.1, .int .i64 p.2.c]
theorem flatV_len : ∀ Z : List VE, (flatV Z).length = Z.length * 2
  | [] => rfl
  | p :: Z => by
    have := flatV_len Z
    unfold flatV at this ⊢
    rw [List.flatMap_cons, List.length_append, this, List.length_cons]
    simp; omega
theorem flatV_append (Z Y : List VE) : flatV (Z ++ Y) = flatV Z ++ flatV Y := by unfold flatV; rw [List.flatMap_append]
theorem flatV_at {Z : List VE} {j : Nat} (h : j < Z.length) : (flatV Z)[j * 2]? = some Z[j].1 ∧ (flatV Z)[j * 2 + 1]? = some (.int .i64 Z[j].2.c) := by
  induction Z generalizing j with
  | nil => simp at h
  | cons p Z ih =>
    have e : flatV (p :: Z) = p.1 :: .int .i64 p.2.c :: flatV Z := rfl
    rw [e]
    cases j with
    | zero => exact ⟨rfl, rfl⟩
    | succ j =>
      have := ih (j := j) (by simpa using h)
      rw [show (j + 1) * 2 = j * 2 + 1 + 1 by omega, show j * 2 + 1 + 1 + 1 = j * 2 + 1 + 2 by omega]
      exact this
theorem flatV_set {Z : List VE} {j : Nat} (h : j < Z.length) (u : Value) (r : List Int) : (flatV Z).set (j * 2) u = flatV (Z.set j (u, ⟨r, Z[j].2.c⟩)) := by
  induction Z generalizing j with
  | nil => simp at h
  | cons p Z ih =>
    have e : flatV (p :: Z) = p.1 :: .int .i64 p.2.c :: flatV Z := rfl
    rw [e]
    cases j with
    | zero => rfl
    | succ j =>
      have := ih (j := j) (by simpa using h)
      rw [show (j + 1) * 2 = j * 2 + 1 + 1 by omega, List.set_cons_succ, List.set_cons_succ, this]
      rfl
/-- v is votes of the call's own: each owns its ranking; all blocks lie from lo on, below hi; no two rankings share a block -/
def OwnV (w : World) (lo hi : Nat) (v : Value) (vs : List Vt) : Prop :=
  ∃ Z : List VE, Z.map Prod.snd = vs ∧ w.ownsRow lo 46 2 v Z.length (flatV Z) ∧ (∀ k, v.ownBlock = some k → k < hi) ∧ (∀ p ∈ Z, OwnI w lo hi p.1 p.2.r) ∧ Z.Pairwise (fun p q => Apart p.1 q.1)
section
variable {w w' : World} {A : Option Addr} {n c : Nat} {vs : List Vt} {v u : Value} {lo hi B : Nat} {Z : List VE}
theorem OwnV.nil (w : World) (lo hi : Nat) : OwnV w lo hi (.slice none 0 0) [] :=
  ⟨[], rfl, World.ownsRow_nil _ _ _ _, fun k h => by simp [Value.ownBlock] at h, fun p h => by simp at h, List.Pairwise.nil⟩
theorem OwnV.keep (h : OwnV w lo hi v vs) (hf : ∀ k, lo ≤ k → k < hi → k < w.heap.size → w'.heap[k]? = w.heap[k]?) : OwnV w' lo hi v vs := by
  obtain ⟨Z, h0, h1, h2, h3, h4⟩ := h
  refine ⟨Z, h0, ⟨h1.1, ?_⟩, h2, fun p hp => (h3 p hp).keep hf, h4⟩
  rcases h1.2 with h0 | ⟨g, cap, cur, hv, hgb, hg, r⟩
  · exact .inl h0
  · exact .inr ⟨g, cap, cur, hv, hgb, by rw [hf g hgb (h2 g (by rw [hv]; rfl)) (Array.getElem?_eq_some_iff.1 hg).1]; exact hg, r⟩
theorem OwnV.belowW (h : OwnV w lo hi v vs) (hb : Below w.heap.size w w') : OwnV w' lo hi v vs := h.keep fun k _ _ hs => hb.block k hs
theorem OwnV.only {l2 h2 : Nat} (h : OwnV w lo hi v vs) (ho : Only l2 h2 w w') (hd : hi ≤ l2 ∨ h2 ≤ lo) : OwnV w' lo hi v vs := h.keep fun k h1 h2 hs => ho.block k hs (by omega)
theorem OwnV.alloc (h : OwnV w lo hi v vs) (o : Obj) : OwnV (w.alloc o) lo hi v vs := h.belowW ((Below.refl _ _).alloc (Nat.le_refl _) o)
theorem OwnV.mono {lo' hi' : Nat} (h : OwnV w lo hi v vs) (hl : lo' ≤ lo) (hh : hi ≤ hi') : OwnV w lo' hi' v vs := by
  obtain ⟨Z, h0, h1, h2, h3, h4⟩ := h
  refine ⟨Z, h0, ⟨h1.1, ?_⟩, fun k hk => by have := h2 k hk; omega, fun p hp => (h3 p hp).mono hl hh, h4⟩
  rcases h1.2 with h0 | ⟨g, cap, cur, hv, hgb, r⟩
  · exact .inl h0
  · exact .inr ⟨g, cap, cur, hv, by omega, r⟩
theorem OwnV.len (h : OwnV w lo hi v vs) : ∃ A c, v = .slice A vs.length c ∧ vs.length ≤ c := by
  obtain ⟨Z, rfl, h1, _⟩ := h
  rw [List.length_map]
  rcases h1.2 with ⟨rfl, h0⟩ | ⟨g, cap, cur, rfl, _, _, hc, _⟩
  · exact ⟨none, 0, by rw [h0], by omega⟩
  · exact ⟨_, _, rfl, hc⟩
theorem OwnV.num (h : OwnV w lo hi (.slice A n c) vs) : vs.length = n ∧ n ≤ c := by
  obtain ⟨A', c', e, hc⟩ := h.len
  cases e
  exact ⟨rfl, hc⟩
theorem OwnV.head (h : OwnV w lo hi (.slice A n c) vs) (hn : 0 < n) : ∃ g, A = some ⟨g, 0, none⟩ ∧ lo ≤ g ∧ g < hi ∧ g < w.heap.size := by
  obtain rfl := h.num.1
  obtain ⟨Z, rfl, h1, h2, _⟩ := h
  rw [List.length_map] at hn h1 h2
  rcases h1.2 with ⟨_, h0⟩ | ⟨g, cap, cur, hv, hb, hg, hc, _⟩
  · omega
  · cases hv
    exact ⟨g, rfl, hb, h2 g rfl, (Array.getElem?_eq_some_iff.1 hg).1⟩
theorem OwnV.at_ (h : OwnV w lo hi (.slice A n c) vs) : VotesAt w A n vs := by
  obtain rfl := h.num.1
  have hh := fun hn => h.head hn
  obtain ⟨Z, rfl, h1, h2, h3, h4⟩ := h
  refine ⟨rfl, fun hn => ?_⟩
  obtain ⟨g, rfl, _⟩ := hh hn
  rw [List.length_map] at h1 hn ⊢
  refine ⟨g, 0, rfl, fun j hj => ?_⟩
  obtain ⟨a1, a2⟩ := flatV_at hj
  have c1 := World.ownsRow.cellAt h1 (j * 2) (by omega)
  have c2 := World.ownsRow.cellAt h1 (j * 2 + 1) (by omega)
  rw [a1] at c1
  rw [a2] at c2
  have ho := h3 _ (List.getElem_mem hj)
  have ev : vx (Z.map Prod.snd) j = Z[j].2 := by rw [vx_lt (by simpa using hj)]; simp
  rw [ev]
  obtain ⟨A', c', e, hcc⟩ := ho.len
  rw [e] at c1 ho
  exact ⟨A', _, c', by rw [Nat.zero_add]; exact c1, by rw [Nat.zero_add]; exact c2, hcc, ho.at_⟩
/-- the votes' block and a ranking's differ -/
theorem ne_blockV {g n c l2 h2 : Nat} {xs : List Value} {r : List Int} (h1 : w.ownsRow lo 46 2 (.slice (some ⟨g, 0, none⟩) n c) n xs) (h3 : OwnI w l2 h2 u r) : u.ownBlock ≠ some g := by
  rcases h1.2 with ⟨e, _⟩ | ⟨g', cap, cur, e, _, hg, _⟩
  · cases e
  · cases e
    rcases h3.1.2 with ⟨rfl, _⟩ | ⟨g2, cap2, cur2, rfl, _, hg2, _⟩
    · simp [Value.ownBlock]
    · intro e2
      simp [Value.ownBlock] at e2
      subst e2
      rw [hg] at hg2
      simp at hg2
/-- what an append leaves -/
theorem OwnV.grown (h : OwnV w lo hi (.slice A n c) vs) {l2 h2 : Nat} {r : List Int} {cnt : Int} (hu : OwnI w l2 h2 u r) (hl2 : hi ≤ l2) (hh2 : h2 ≤ w.heap.size) (hbase : lo ≤ hi)
    (hZ : ∀ Z : List VE, Z.map Prod.snd = vs → w.ownsRow lo 46 2 (.slice A n c) n (flatV Z) → ∃ v', w'.ownsRow lo 46 2 v' (n + 1) (flatV Z ++ [u, .int .i64 cnt]) ∧ w.grownBy w' (Value.slice A n c).ownBlock ∧ v' = v) :
    OwnV w' lo w'.heap.size v (vs ++ [⟨r, cnt⟩]) ∧ Only lo hi w w' := by
  obtain rfl := h.num.1
  obtain ⟨Z, rfl, h1, h2', h3, h4⟩ := h
  rw [List.length_map] at *
  obtain ⟨v', o1, hgrow, rfl⟩ := hZ Z rfl h1
  have hge : ∀ k, (Value.slice A Z.length c).ownBlock = some k → lo ≤ k ∧ k < hi := fun k e => ⟨(World.ownsRow.lt h1 k e).1, h2' k e⟩
  have hu' : ∀ {l h : Nat} {y : Value} {ys : List Int}, OwnI w l h y ys → OwnI w' l h y ys := fun {l h y ys} ho => by
    refine ⟨⟨ho.1.1, ?_⟩, ho.2⟩
    rcases ho.1.2 with h0 | ⟨g', cap, cur, hv, hgb, hg', r⟩
    · exact .inl h0
    · refine .inr ⟨g', cap, cur, hv, hgb, ?_, r⟩
      rw [hgrow.block g' (Array.getElem?_eq_some_iff.1 hg').1 ?_]
      · exact hg'
      · intro e
        rcases h1.2 with ⟨e0, _⟩ | ⟨g, cap1, cur1, e0, _, hg1, _⟩
        · rw [e0] at e; simp [Value.ownBlock] at e
        · have hne := ne_blockV (by rw [← e0]; exact h1) ho
          rw [hv] at hne
          rw [e0] at e
          exact hne e
  refine ⟨⟨Z ++ [(u, ⟨r, cnt⟩)], by simp, ?_, fun k e => (World.ownsRow.lt o1 k e).2, fun p hp => ?_, ?_⟩, Only.of_grown hgrow hge⟩
  · rw [List.length_append, flatV_append]
    exact o1
  · rw [List.mem_append, List.mem_singleton] at hp
    rcases hp with hp | rfl
    · have ho := h3 p hp
      have : OwnI w lo w.heap.size p.1 p.2.r := ⟨ho.1, fun k e => (World.ownsRow.lt ho.1 k e).2⟩
      exact (hu' this).mono (Nat.le_refl _) hgrow.size
    · exact (hu' hu).mono (by omega) (Nat.le_trans hh2 hgrow.size)
  · rw [List.pairwise_append]
    refine ⟨h4, by simp, fun p hp q hq => ?_⟩
    rw [List.mem_singleton] at hq
    subst hq
    have ho := h3 p hp
    cases hx : p.1.ownBlock with
    | none => exact .inl hx
    | some k1 =>
      right
      rw [hx]
      intro e4
      have a1 := (ho.block_ge k1 hx).2
      have a2 := (hu.block_ge k1 e4.symm).1
      omega
end
section
variable {ops : Array Oper} {o : Oper} {a : Act} {Q : Exit → Act → World → Prop}
/-- 'votes = append(votes, Vote{..})' inside a region that draws -/
theorem step_append_V {K : Act → World → Prop} {E : Prop} (w : World) (hgd : o.guard = none) (s x : Operand) (hop : o.op = Op.call { callee := Callee.builtin Builtin.append, args := #[s, x], argTypes := #[29, 29] })
    (lo hi n c : Nat) (A : Option Addr) (vs : List Vt) (hs : a.eval s = .slice A n c) (hown : OwnV w lo hi (.slice A n c) vs)
    (A2 : Option Addr) (m2 c2 : Nat) (r : List Int) (cnt : Int) (l2 h2 : Nat) (hu : OwnI w l2 h2 (.slice A2 m2 c2) r) (hl2 : hi ≤ l2) (hh2 : h2 ≤ w.heap.size)
    (b cc : Nat) (hx : a.eval x = .slice (some ⟨b, 0, none⟩) 1 cc) (hc0 : w.cell? ⟨b, 0, none⟩ = some (.slice A2 m2 c2)) (hc1 : w.cell? ⟨b, 1, none⟩ = some (.int .i64 cnt)) (hn : n ≤ 1099511627776) (hbase : lo ≤ hi) (hlw : lo ≤ w.heap.size)
    (hK : ∀ A'' c'' w', OwnV w' lo w'.heap.size (.slice A'' (n + 1) c'') (vs ++ [⟨r, cnt⟩]) → Only lo hi w w' → K (a.put o.dst (.slice A'' (n + 1) c'')) w') :
    if Region.wanted o (yielded ops a.tmps) = true then Oper.wp Tryz.prog o a w K Q else E := by
  have hw : Region.wanted o (yielded ops a.tmps) = true := by simp [Region.wanted, hgd]
  rw [if_pos hw]
  obtain ⟨i0, hi0, hz0, hz1, hz2⟩ := info_parts infoV
  obtain rfl := hown.num.1
  have hZ0 := hown
  obtain ⟨Z, hz, h1, _⟩ := hZ0
  have hzl : Z.length = vs.length := by rw [← hz, List.length_map]
  rw [hzl] at h1
  obtain ⟨v', w', hr, o1, hgrow, _, _⟩ := run_append_own_at (P := Tryz.prog) w lo 29 o.type 46 i0 (.agg #[.slice none 0 0, .int .i64 0]) 2 32 Tryz.underlying29 hi0 hz0 hz1 hz2 (by decide) (by decide) _ vs.length _ h1 ⟨b, 0, none⟩ 1 cc [.slice A2 m2 c2, .int .i64 cnt] rfl
    (fun j u hj => by
      match j, hj with
      | 0, hj => simp at hj; subst hj; simpa [Addr.add] using hc0
      | 1, hj => simp at hj; subst hj; simpa [Addr.add] using hc1) (fun u hu => by simp at hu; rcases hu with rfl | rfl <;> rfl) (by unfold maxLen; omega) (by omega) hlw
  have hg : OwnV w' lo w'.heap.size v' (vs ++ [⟨r, cnt⟩]) ∧ Only lo hi w w' := by
    refine OwnV.grown hown hu hl2 hh2 hbase fun Y hY hYo => ?_
    have hYZ : flatV Y = flatV Z := by
      have a1 := hYo.2
      have b1 := h1.2
      have l1 := hYo.1
      have l2 := h1.1
      rcases a1 with ⟨e1, e2⟩ | ⟨g1, cap1, cur1, hv1, _, hg1, _, _, _, ht1⟩
      · rw [e2] at l1 l2
        rw [List.eq_nil_of_length_eq_zero (by omega : (flatV Y).length = 0), List.eq_nil_of_length_eq_zero (by omega : (flatV Z).length = 0)]
      · rcases b1 with ⟨e1, e2⟩ | ⟨g2, cap2, cur2, hv2, _, hg2, _, _, _, ht2⟩
        · rw [e1] at hv1; cases hv1
        · rw [hv1] at hv2
          cases hv2
          rw [hg1] at hg2
          simp at hg2
          rw [← ht1, ← ht2, hg2]
    rw [hYZ]
    exact ⟨v', o1, hgrow, rfl⟩
  obtain ⟨A', c', e, _⟩ := hg.1.len
  rw [List.length_append] at e
  subst e
  unfold Oper.wp execOp
  simp only [hop, resolve, invoke, builtin, Sem.run_bind, Sem.run_pure, Result.andThen_ok, List.map_toArray, List.map_cons, List.map_nil, hs, hx, hr]
  exact hK A' c' w' hg.1 hg.2
end
/-- vote k with another ranking -/
def setR (vs : List Vt) (k : Nat) (r : List Int) : List Vt := vs.set k ⟨r, (vx vs k).c⟩
theorem setR_len (vs : List Vt) (k : Nat) (r : List Int) : (setR vs k r).length = vs.length := by simp [setR]
theorem setR_mem {vs : List Vt} {k : Nat} {r : List Int} {v : Vt} (h : v ∈ setR vs k r) : v ∈ vs ∨ v = ⟨r, (vx vs k).c⟩ := by
  unfold setR at h
  rcases List.mem_or_eq_of_mem_set h with h | h
  · exact .inl h
  · exact .inr h
theorem OwnV.cells {w : World} {lo hi g n c : Nat} {vs : List Vt} (h : OwnV w lo hi (.slice (some ⟨g, 0, none⟩) n c) vs) (j : Nat) (hj : j < n) :
    (∃ u, w.cell? ⟨g, j * 2, none⟩ = some u) ∧ w.frozen? ⟨g, j * 2, none⟩ = false := by
  obtain rfl := h.num.1
  obtain ⟨Z, rfl, h1, _⟩ := h
  rw [List.length_map] at hj h1
  have c1 := World.ownsRow.cellAt h1 (j * 2) (by omega)
  rw [(flatV_at hj).1] at c1
  exact ⟨⟨_, c1⟩, World.ownsRow.frozenAt h1 (j * 2)⟩
/-- another ranking, made since, is stored in vote k -/
theorem OwnV.stored {w : World} {lo hi H g n c l2 h2 : Nat} {vs : List Vt} {u : Value} {r : List Int} (h : OwnV w lo hi (.slice (some ⟨g, 0, none⟩) n c) vs) (k : Nat) (hk : k < n) (hu : OwnI w l2 h2 u r) (hl2 : hi ≤ l2) (hh2 : h2 ≤ H) (hlo : lo ≤ hi) (hhH : hi ≤ H) :
    OwnV (w.setCell ⟨g, k * 2, none⟩ u) lo H (.slice (some ⟨g, 0, none⟩) n c) (setR vs k r) ∧ Only g (g + 1) w (w.setCell ⟨g, k * 2, none⟩ u) := by
  obtain rfl := h.num.1
  obtain ⟨Z, rfl, h1, h2', h3, h4⟩ := h
  rw [List.length_map] at hk h1
  have hst := World.ownsRow.stored h1 (k * 2) u
  have hkeep : ∀ {l h : Nat} {x : Value} {ys : List Int}, OwnI w l h x ys → OwnI (w.setCell ⟨g, k * 2, none⟩ u) l h x ys := fun {l h x ys} ho => by
    refine ⟨⟨ho.1.1, ?_⟩, ho.2⟩
    have hne := ne_blockV h1 ho
    rcases ho.1.2 with h0 | ⟨g', cap, cur, hv, hgb, hg, r⟩
    · exact .inl h0
    · exact .inr ⟨g', cap, cur, hv, hgb, by rw [Below.heap_setCell _ _ _ _ (by rintro rfl; exact hne (by rw [hv]; rfl))]; exact hg, r⟩
  have hvx : vx (Z.map Prod.snd) k = Z[k].2 := by rw [vx_lt (by simpa using hk)]; simp
  refine ⟨⟨Z.set k (u, ⟨r, Z[k].2.c⟩), ?_, ?_, fun j e => ?_, fun p hp => ?_, ?_⟩, Only.of_grown hst.2 fun j e => by cases e; omega⟩
  · rw [List.map_set, setR, hvx]
  · rw [List.length_set, List.length_map, ← flatV_set hk]
    exact hst.1
  · have := h2' j (by rw [List.length_map]; exact e)
    omega
  · rcases List.mem_or_eq_of_mem_set hp with hp | rfl
    · exact (hkeep (h3 p hp)).mono (Nat.le_refl _) hhH
    · exact (hkeep hu).mono (by omega) hh2
  · rw [List.pairwise_iff_getElem] at h4 ⊢
    intro i j hi hj hij
    rw [List.length_set] at hi hj
    have key : ∀ q, q < Z.length → ∀ hq : q < Z.length, Apart (Z[q]).1 u := fun q _ hq => by
      have ho := h3 _ (List.getElem_mem hq)
      cases hx : (Z[q]).1.ownBlock with
      | none => exact .inl hx
      | some k1 =>
        right
        rw [hx]
        intro e4
        have a1 := (ho.block_ge k1 hx).2
        have a2 := (hu.block_ge k1 e4.symm).1
        omega
    simp only [List.getElem_set]
    by_cases e1 : k = i
    · rw [if_pos e1, if_neg (by omega)]
      exact (key j hj hj).symm
    · rw [if_neg e1]
      by_cases e2 : k = j
      · rw [if_pos e2]; exact key i hi hi
      · rw [if_neg e2]; exact h4 i j hi hj hij
end Go.Proofs.YtcjnjnegaoihoaaGreat
namespace Go.Proofs.YtcjnjnegaoihoaaGreat
set_option linter.unusedSimpArgs false
set_option linter.unusedVariables false
set_option linter.unusedVariables false
open Go.RowKit

set_option maxHeartbeats 400000 in
theorem clone_any (A : Option Addr) (n c : Nat) (xs : List Int) (w : World) (h : IntsAt w A n xs) (hn : n ≤ 1048576) :
    Calls Tryz.prog 47 #[.slice A n c] w fun e w' => ∃ A' c', e = .returned (.slice A' n c') ∧ OwnI w' w.heap.size w'.heap.size (.slice A' n c') xs ∧ Below w.heap.size w w' := by
  have he := Lib.run_eql_slice_nil (P := Tryz.prog) w 26 3 A n c 0 0 Tryz.underlying26
  cases A with
  | none =>
    have hn0 : n = 0 := by
      rcases Nat.eq_zero_or_pos n with h0 | h0
      · exact h0
      · obtain ⟨b, o, e, _⟩ := h.2 h0
        cases e
    subst hn0
    have hx : xs = [] := List.eq_nil_of_length_eq_zero h.1
    subst hx
    simp only [Option.isNone_none] at he
    go_enter Tryz.func47, Tryz.ntmps47
    go_wp2
    go_ret
    exact ⟨none, 0, rfl, OwnI.nil _ _ _, Below.refl _ _⟩
  | some a =>
    simp only [Option.isNone_some] at he
    have hb := (Below.refl w.heap.size w).alloc (Nat.le_refl _) (.cells #[] 3)
    go_enter Tryz.func47, Tryz.ntmps47
    go_wp2_with (at_builtin; refine wpList_append_ints _ rfl _ _ rfl w.heap.size (w.heap.size + 1) 0 0 _ [] rfl (OwnI.empty w (Nat.le_refl _) (by omega)) (some a) n c xs rfl (h.below hb) (by omega) (by simp) (by simp) ?_)
    intro A' c' w1 ho hon
    have hb2 := hb.trans (hon.toBelow (Nat.le_refl _) (by simp))
    clear hon hb he
    go_wp2
    go_ret
    exact ⟨_, _, rfl, ho, hb2⟩
end Go.Proofs.YtcjnjnegaoihoaaGreat
namespace Go.Proofs.YtcjnjnegaoihoaaGreat
set_option linter.unusedSimpArgs false
set_option linter.unusedVariables false
set_option linter.unusedVariables false
open Go.RowKit

theorem vx_eta (v : Vt) : (⟨v.r, v.c⟩ : Vt) = v := rfl
set_option maxRecDepth 100000 in
set_option maxHeartbeats 2000000 in
theorem implClone (m : Int) (A : Option Addr) (n c : Nat) (vs : List Vt) (w : World) (h : VotesAt w A n vs) (hn : n ≤ 1048576) (hx : ∀ v ∈ vs, v.r.length ≤ 1048576) :
    Calls Tryz.prog 33 #[.agg #[.int .i64 m, .slice A n c]] w fun e w' => ∃ A' c', e = .returned (.agg #[.int .i64 m, .slice A' n c']) ∧ OwnV w' w.heap.size w'.heap.size (.slice A' n c') vs ∧ Below w.heap.size w w' := by
  have hv0 := h
  obtain rfl := h.len
  have hB := alloc_below w (.cells #[.int .i64 m, .slice A vs.length c] 31)
  obtain ⟨x0, x1⟩ := PBox.new w m A vs.length c 31 rfl
  replace h := h.below hB
  generalize hw0 : w.alloc (.cells #[.int .i64 m, .slice A vs.length c] 31) = w0 at *
  have HX := Lib.hid hx
  clear hx
  have s0 : w0.heap.size = w.heap.size + 1 := by rw [← hw0]; simp
  have b1 := alloc_below w0 (.cells #[.int .i64 0, .slice none 0 0] 31)
  obtain ⟨r0, r1⟩ := PBox.new w0 0 none 0 0 31 s0.symm
  have rf0 := new_free w0 #[.int .i64 0, .slice none 0 0] 31 s0.symm 0
  have rf1 := new_free w0 #[.int .i64 0, .slice none 0 0] 31 s0.symm 1
  replace x0 := cell_carry b1 x0
  replace x1 := cell_carry b1 x1
  replace h := h.below b1
  replace hB := hB.trans (b1.mono hB.size)
  have s1 : (w0.alloc (.cells #[.int .i64 0, .slice none 0 0] 31)).heap.size = w.heap.size + 2 := by simp [s0]
  clear b1
  generalize hw1 : w0.alloc (.cells #[.int .i64 0, .slice none 0 0] 31) = w1 at *
  have b2 := alloc_below w1 (.cells #[.int .i64 m, .slice none 0 0] 31)
  obtain ⟨z0, z1⟩ := PBox.new w1 m none 0 0 31 s1.symm
  have zf1 := new_free w1 #[.int .i64 m, .slice none 0 0] 31 s1.symm 1
  have x0a := x0
  have rf0' := old_free r0 rf0 (.cells #[.int .i64 m, .slice none 0 0] 31)
  have rf1' := old_free r1 rf1 (.cells #[.int .i64 m, .slice none 0 0] 31)
  replace r0 := cell_carry b2 r0
  replace r1 := cell_carry b2 r1
  replace x0 := cell_carry b2 x0
  replace x1 := cell_carry b2 x1
  replace h := h.below b2
  replace hB := hB.trans (b2.mono hB.size)
  have s2 : (w1.alloc (.cells #[.int .i64 m, .slice none 0 0] 31)).heap.size = w.heap.size + 3 := by simp [s1]
  clear b2 rf0 rf1
  generalize hw2 : w1.alloc (.cells #[.int .i64 m, .slice none 0 0] 31) = w2 at *
  go_enter Tryz.func33, Tryz.ntmps33
  go_wp2
  clear hw2 hw1 hw0 x0 x0a x1
  have z1' := World.cell?_setCell_same w2 ⟨w.heap.size + 2, 1, none⟩ (.slice none 0 0) z1
  have z0' := (World.cell?_setCell_other w2 ⟨w.heap.size + 2, 1, none⟩ ⟨w.heap.size + 2, 0, none⟩ (.slice none 0 0) (by simp)).trans z0
  have zf' : (w2.setCell ⟨w.heap.size + 2, 1, none⟩ (.slice none 0 0)).frozen? ⟨w.heap.size + 2, 1, none⟩ = false := by rw [World.frozen?_setCell]; exact zf1
  have hb' : Below (w.heap.size + 2) w2 (w2.setCell ⟨w.heap.size + 2, 1, none⟩ (.slice none 0 0)) := (Below.refl _ _).setCell (p := ⟨w.heap.size + 2, 1, none⟩) (Nat.le_refl _) _
  have zs' : w.heap.size + 3 ≤ (w2.setCell ⟨w.heap.size + 2, 1, none⟩ (.slice none 0 0)).heap.size := by rw [World.size_setCell]; omega
  clear z0 z1 zf1
  go_loopw [5, 12] (fun _ i wr => ∃ (k : Nat) (A1 : Option Addr) (c1 : Nat), k ≤ vs.length ∧ i = .int .i64 k ∧ wr.cell? ⟨w.heap.size + 2, 0, none⟩ = some (.int .i64 m) ∧ wr.cell? ⟨w.heap.size + 2, 1, none⟩ = some (.slice A1 k c1) ∧ wr.frozen? ⟨w.heap.size + 2, 1, none⟩ = false ∧
    OwnV wr (w.heap.size + 3) wr.heap.size (.slice A1 k c1) (vs.take k) ∧ Below (w.heap.size + 2) w2 wr ∧ w.heap.size + 3 ≤ wr.heap.size) (fun _ i _ => vs.length - (intOf i).toNat)
  case atStart => exact ⟨0, none, 0, Nat.zero_le _, rfl, z0', z1', zf', by rw [List.take_zero]; exact OwnV.nil _ _ _, hb', zs'⟩
  case round =>
    clear z0' z1' zf' hb' zs'
    obtain ⟨k, A1, c1, hk, rfl, z0, z1, zf1, hown, hb, zr⟩ := hrel
    have hbw := hB.trans (hb.mono (by omega))
    by_cases hlt : k < vs.length
    · obtain ⟨b, o, A', c', rfl, hbl, hc1, hc2, hcc, hin⟩ := (hv0.below hbw).at_ hlt
      have HT := Lib.hid (take_vx hlt)
      have hxv := HX.out _ (vx_mem hlt)
      generalize vx vs k = v at *
      have b1 := alloc_below wr (.cells #[.slice A' v.r.length c', .int .i64 v.c] 46)
      obtain ⟨y0, y1⟩ := new_pair wr (.slice A' v.r.length c') (.int .i64 v.c) 46 rfl
      have hin2 := hin.below b1
      have hown2 := hown.belowW b1
      have zf2 := old_free z1 zf1 (.cells #[.slice A' v.r.length c', .int .i64 v.c] 46)
      replace z0 := cell_carry b1 z0
      replace z1 := cell_carry b1 z1
      have hb2 := hb.trans (b1.mono (by omega))
      have zr2 : (wr.alloc (.cells #[.slice A' v.r.length c', .int .i64 v.c] 46)).heap.size = wr.heap.size + 1 := by simp
      have gy : wr.heap.size ≠ w.heap.size + 2 := by omega
      clear b1 hin hown zf1 hb hbw
      generalize hw4 : wr.alloc (.cells #[.slice A' v.r.length c', .int .i64 v.c] 46) = w4 at *
      go_wp2
      clear hw4
      have hin3 : IntsAt w4.drew A' v.r.length v.r := hin2
      have hown3 : OwnV w4.drew (w.heap.size + 3) wr.heap.size (.slice A1 k c1) (vs.take k) := hown2
      have y1d : w4.drew.cell? ⟨wr.heap.size, 1, none⟩ = some (.int .i64 v.c) := y1
      have z0d : w4.drew.cell? ⟨w.heap.size + 2, 0, none⟩ = some (.int .i64 m) := z0
      have z1d : w4.drew.cell? ⟨w.heap.size + 2, 1, none⟩ = some (.slice A1 k c1) := z1
      have zfd : w4.drew.frozen? ⟨w.heap.size + 2, 1, none⟩ = false := zf2
      have h4d : Below (w.heap.size + 2) w2 w4.drew := hb2.drew
      have zrd : w4.drew.heap.size = wr.heap.size + 1 := zr2
      clear hin2 hown2
      go_region_law (first
        | (refine step_append_V _ (by rfl) _ _ (by rfl) (w.heap.size + 3) wr.heap.size k c1 A1 (vs.take k) (by rfl) (hown8.alloc _) A8 v.r.length c8 v.r v.c w4.drew.heap.size w8.heap.size (o8.alloc _) (by omega) (by simp) w8.heap.size 1 (by rfl) (new_pair w8 _ _ _ rfl).1 (new_pair w8 _ _ _ rfl).2 (by omega) (by omega) (by simp; omega) ?_; intro A9 c9 w9 ho9 on9; have z1_9 := on9.cell (old_cell z1_8 _) (by show ¬ (_ ≤ w.heap.size + 2 ∧ _); omega); have z0_9 := on9.cell (old_cell z0_8 _) (by show ¬ (_ ≤ w.heap.size + 2 ∧ _); omega); have zf9 := on9.frozen (p := ⟨w.heap.size + 2, 1, none⟩) (old_cell z1_8 _) (old_free z1_8 zf8 _) (by show ¬ (_ ≤ w.heap.size + 2 ∧ _); omega))
        | (go_simp; go_at_call 47; (with_reducible refine (clone_any A' _ c' v.r _ hin3 (by omega)).mono ?_); rintro er w8 ⟨A8, c8, rfl, o8, b8⟩; have hs8 := b8.size; have hown8 := hown3.belowW b8; have y1_8 := cell_carry b8 y1d; have z1_8 := cell_carry b8 z1d; have z1_8a := old_cell z1_8 (.cells #[.slice A8 v.r.length c8, .int .i64 v.c] 46); have z0_8 := cell_carry b8 z0d; have zf8 := (b8.frozen (p := ⟨w.heap.size + 2, 1, none⟩) (cell_lt z1d)).trans zfd))
      all_goals
        rw [show vs.take k ++ [(⟨v.r, v.c⟩ : Vt)] = vs.take (k + 1) from HT.out.symm] at ho9
        have q1 := Lib.hid (World.cell?_setCell_same w9 ⟨w.heap.size + 2, 1, none⟩ (.slice A9 (k + 1) c9) z1_9)
        have q0 := Lib.hid ((World.cell?_setCell_other w9 ⟨w.heap.size + 2, 1, none⟩ ⟨w.heap.size + 2, 0, none⟩ (.slice A9 (k + 1) c9) (by simp)).trans z0_9)
        have qf : Hid ((w9.setCell ⟨w.heap.size + 2, 1, none⟩ (.slice A9 (k + 1) c9)).frozen? ⟨w.heap.size + 2, 1, none⟩ = false) := by show _ = _; rw [World.frozen?_setCell]; exact zf9
        have q8 : w8.heap.size ≤ (w8.alloc (.cells #[.slice A8 v.r.length c8, .int .i64 v.c] 46)).heap.size := by simp
        have q9 : w8.heap.size + 1 ≤ w9.heap.size := by have := on9.size; simp at this; omega
        have hb9 : Below (w.heap.size + 2) w2 w9 := (h4d.trans ((b8.trans ((alloc_below w8 (.cells #[.slice A8 v.r.length c8, .int .i64 v.c] 46)).mono hs8)).mono (by omega))).trans (on9.toBelow (by omega) (by simp; omega))
        have hb10 := Lib.hid (hb9.setCell (p := ⟨w.heap.size + 2, 1, none⟩) (Nat.le_refl _) (.slice A9 (k + 1) c9))
        have on10 : Only (w.heap.size + 2) (w.heap.size + 3) w9 (w9.setCell ⟨w.heap.size + 2, 1, none⟩ (.slice A9 (k + 1) c9)) := ⟨rfl, rfl, rfl, by simp [World.setCell], fun k _ hk => Below.heap_setCell _ _ _ _ (by simp; omega)⟩
        have ho10 := ho9.only on10 (.inr (Nat.le_refl _))
        have z10 : (w9.setCell ⟨w.heap.size + 2, 1, none⟩ (.slice A9 (k + 1) c9)).heap.size = w9.heap.size := World.size_setCell _ _ _
        rw [← z10] at ho10
        have HO := Lib.hid ho10
        have ZZ := Lib.hid (show w.heap.size + 3 ≤ (w9.setCell ⟨w.heap.size + 2, 1, none⟩ (.slice A9 (k + 1) c9)).heap.size by omega)
        clear on9 ho9 b8 o8 hown8 y1_8 z1_8 z1_8a z0_8 zf8 z0_9 hb9 on10 ho10 z10
        go_wp2
        go_roundw
        case rel => exact ⟨k + 1, A9, c9, by omega, by go_num, q0.out, q1.out, qf.out, HO.out, hb10.out, ZZ.out⟩
        case measure => simp [intOf]; omega
    · obtain rfl : k = vs.length := by omega
      rw [List.take_length] at hown
      have r0' := (hb.cell (p := ⟨w.heap.size + 1, 0, none⟩) (by show w.heap.size + 1 < _; omega)).trans r0
      have r1' := (hb.cell (p := ⟨w.heap.size + 1, 1, none⟩) (by show w.heap.size + 1 < _; omega)).trans r1
      have f0' := (hb.frozen (p := ⟨w.heap.size + 1, 0, none⟩) (by show w.heap.size + 1 < _; omega)).trans rf0'
      have f1' := (hb.frozen (p := ⟨w.heap.size + 1, 1, none⟩) (by show w.heap.size + 1 < _; omega)).trans rf1'
      have E2 := Lib.hid (pair_set r0' r1' (.int .i64 m) (.slice A1 vs.length c1))
      have n1 : Only (w.heap.size + 1) (w.heap.size + 2) wr (wr.setCell ⟨w.heap.size + 1, 0, none⟩ (.int .i64 m)) := ⟨rfl, rfl, rfl, by simp [World.setCell], fun k _ hk => Below.heap_setCell _ _ _ _ (by simp; omega)⟩
      have n2 : Only (w.heap.size + 1) (w.heap.size + 2) (wr.setCell ⟨w.heap.size + 1, 0, none⟩ (.int .i64 m)) ((wr.setCell ⟨w.heap.size + 1, 0, none⟩ (.int .i64 m)).setCell ⟨w.heap.size + 1, 1, none⟩ (.slice A1 vs.length c1)) := ⟨rfl, rfl, rfl, by simp [World.setCell], fun k _ hk => Below.heap_setCell _ _ _ _ (by simp; omega)⟩
      have n3 := n1.trans n2
      have ho := (hown.only n3 (.inr (by omega))).mono (show w.heap.size ≤ w.heap.size + 3 by omega) n3.size
      have HO := Lib.hid ho
      have HBB := Lib.hid (hbw.trans (n3.toBelow (by omega) (by omega)))
      clear n1 n2 n3 ho hown hbw hb r0 r1 rf0' rf1'
      go_wp2
      obtain ⟨e0, e1⟩ := E2.out
      exact bodyPost_ret (v := .agg #[.int .i64 m, .slice A1 vs.length c1]) (by simp [results, Tryz.results33, go_sem, e0, e1]) rfl ⟨A1, c1, rfl, HO.out, HBB.out⟩
end Go.Proofs.YtcjnjnegaoihoaaGreat
