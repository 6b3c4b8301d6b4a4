/- Winners of valid profiles are candidates: plain facts. No program is walked here. Lists of numbers and rows of them, copied. A profile in new memory, the program's side: clone. WithRanking, the program's side. The ways to each winner, the program's side: waysTo. Lists without repetition: plain lemmas. No program is walked here. -/
import Derived.Test.YtaanppihgldeaaaGreatDoorW17
import Derived.Test.YtaanppihgldeaaaGreatDoorW02
import Derived.Test.YtaanppihgldeaaaGreatDoorW05
import Derived.Test.YtaanppihgldeaaaGreatDoorW03
import Derived.Deep.Onto
namespace Go.Proofs.YtaanppihgldeaaaGreatDoor
set_option linter.unusedSimpArgs false
set_option linter.unusedVariables false
set_option linter.unusedVariables false
open Go.RowKit

/-- one pass over all pairs -/
def fwT (f : Nat → Nat → Int) (o a c : Nat) : Int := if a = c then f a c else max (f a c) (min (f a o) (f o c))
theorem fwT_col (f : Nat → Nat → Int) (o a : Nat) : fwT f o a o = f a o := by
  unfold fwT
  split
  · rfl
  · omega
theorem fwT_row (f : Nat → Nat → Int) (o c : Nat) : fwT f o o c = f o c := by
  unfold fwT
  split
  · rfl
  · omega
theorem fwB_eq {f g : Nat → Nat → Int} {o a : Nat} {p : Nat → Nat → Bool} (hp : ∀ c, p a c = false) (hg : ∀ i c, g i c = if p i c then fwT f o i c else f i c) :
    ∀ j, ∀ i c, fwB g o a j i c = if p i c || (i == a && decide (c < j)) then fwT f o i c else f i c := by
  intro j
  induction j with
  | zero => intro i c; rw [fwB, hg]; simp
  | succ j ih =>
    intro i c
    have col : fwB g o a j a o = f a o := by rw [ih]; split <;> first | exact fwT_col f o a | rfl
    have row : fwB g o a j o j = f o j := by rw [ih]; split <;> first | exact fwT_row f o j | rfl
    have at_ : fwB g o a j a j = f a j := by rw [ih, hp]; simp
    rw [fwB, fwStep]
    by_cases haj : a = j
    · rw [if_pos haj, ih]
      by_cases hic : i = a ∧ c = j
      · obtain ⟨rfl, rfl⟩ := hic
        subst haj
        have e : fwT f o i i = f i i := by unfold fwT; rw [if_pos rfl]
        rw [e]; simp
      · have e : (p i c || (i == a && decide (c < j + 1))) = (p i c || (i == a && decide (c < j))) := by
          congr 1
          by_cases h1 : i = a
          · have h2 : c ≠ j := fun h => hic ⟨h1, h⟩
            rw [show decide (c < j + 1) = decide (c < j) by rw [decide_eq_decide]; omega]
          · have : (i == a) = false := by rw [beq_eq_false_iff_ne]; exact h1
            rw [this]; rfl
        rw [e]
    · rw [if_neg haj, upd2, at_, col, row]
      by_cases h1 : i = a
      · subst h1
        rw [if_pos rfl]
        by_cases h2 : c = j
        · subst h2
          rw [if_pos rfl, hp]
          simp only [beq_self_eq_true, Bool.false_or, Bool.true_and]
          rw [if_pos (decide_eq_true (Nat.lt_succ_self _))]
          unfold fwT
          rw [if_neg haj]
        · rw [if_neg h2, ih, show decide (c < j + 1) = decide (c < j) by rw [decide_eq_decide]; omega]
      · rw [if_neg h1, ih]
        have : (i == a) = false := by rw [beq_eq_false_iff_ne]; exact h1
        rw [this]; rfl
theorem fwA_eq (f : Nat → Nat → Int) (M o : Nat) : ∀ a, ∀ i c, fwA f M o a i c = if decide (i < a) && decide (c < M) then fwT f o i c else f i c := by
  intro a
  induction a with
  | zero => intro i c; rw [fwA]; simp
  | succ a ih =>
    intro i c
    rw [fwA, fwB_eq (f := f) (p := fun i c => decide (i < a) && decide (c < M)) (fun c => by simp) ih M i c]
    congr 1
    by_cases h1 : i = a
    · subst h1; simp
    · have : (i == a) = false := by rw [beq_eq_false_iff_ne]; exact h1
      rw [this, show decide (i < a + 1) = decide (i < a) by rw [decide_eq_decide]; omega]; simp
/-- no way over one that was passed is stronger than the direct one -/
theorem fwO_closed (f : Nat → Nat → Int) (M : Nat) : ∀ o, o ≤ M → ∀ k a c, k < o → a < M → c < M → a ≠ c → min (fwO f M o a k) (fwO f M o k c) ≤ fwO f M o a c := by
  intro o
  induction o with
  | zero => intro _ k a c hk; omega
  | succ o ih =>
    intro ho k a c hk ha hc hac
    have E : ∀ i c, i < M → c < M → fwO f M (o + 1) i c = fwT (fwO f M o) o i c := fun i c hi hc => by
      rw [fwO, fwA_eq, decide_eq_true hi, decide_eq_true hc]; rfl
    have IH := fun k a c h1 h2 h3 h4 => ih (by omega) k a c h1 h2 h3 h4
    rw [E a c ha hc, E a k ha (by omega), E k c (by omega) hc]
    generalize fwO f M o = s at *
    by_cases hko : k = o
    · subst hko
      rw [fwT_col, fwT_row, fwT, if_neg hac]
      omega
    · have hk' : k < o := by omega
      by_cases e1 : a = k
      · subst e1
        omega
      · by_cases e2 : k = c
        · subst e2
          omega
        · have q1 := IH k a c hk' ha hc hac
          have q2 : a ≠ o → min (s a k) (s k o) ≤ s a o := fun h => IH k a o hk' ha (by omega) h
          have q3 : o ≠ c → min (s o k) (s k c) ≤ s o c := fun h => IH k o c hk' (by omega) hc h
          unfold fwT
          rw [if_neg hac, if_neg e1, if_neg e2]
          by_cases e3 : a = o
          · subst e3
            have := q3 (by omega)
            omega
          · by_cases e4 : o = c
            · subst e4
              have := q2 e3
              omega
            · have := q2 e3
              have := q3 e4
              omega
/-- of finitely many there is one that none is ahead of -/
theorem top_of (M : Nat) (h : 0 < M) (r : Nat → Nat → Prop) (irr : ∀ a, ¬ r a a) (tr : ∀ a b c, a < M → b < M → c < M → r a b → r b c → r a c) : ∃ a, a < M ∧ ∀ b, b < M → ¬ r b a := by
  have key : ∀ n, 0 < n → n ≤ M → ∃ a, a < n ∧ ∀ b, b < n → ¬ r b a := by
    intro n
    induction n with
    | zero => intro h; omega
    | succ n ih =>
      intro _ hn
      by_cases h0 : n = 0
      · subst h0
        exact ⟨0, by omega, fun b hb => by obtain rfl : b = 0 := by omega
                                           exact irr 0⟩
      · obtain ⟨a, ha, hb⟩ := ih (by omega) (by omega)
        by_cases hr : r n a
        · refine ⟨n, by omega, fun b hbn hrb => ?_⟩
          by_cases e : b = n
          · subst e; exact irr b hrb
          · exact hb b (by omega) (tr b n a (by omega) (by omega) (by omega) hrb hr)
        · refine ⟨a, by omega, fun b hbn hrb => ?_⟩
          by_cases e : b = n
          · subst e; exact hr hrb
          · exact hb b (by omega) hrb
  exact key M h (Nat.le_refl _)
theorem thoseTo_mem {M : Nat} {p : Int → Int → Bool} : ∀ {k : Nat} {x : Int}, x ∈ thoseTo M p k ↔ ∃ j : Nat, j < k ∧ x = (j : Int) ∧ ∀ b, b < M → (j == b || p (j : Int) (b : Int)) = true
  | 0, x => by simp [thoseTo]
  | k + 1, x => by
    rw [thoseTo, List.mem_append, thoseTo_mem]
    constructor
    · rintro (⟨j, hj, e, h⟩ | h)
      · exact ⟨j, by omega, e, h⟩
      · split at h
        · rename_i ha
          rw [List.mem_singleton] at h
          exact ⟨k, by omega, h, allN_iff.1 ha⟩
        · simp at h
    · rintro ⟨j, hj, e, h⟩
      by_cases ejk : j = k
      · subst ejk
        right
        rw [if_pos (allN_iff.2 h), e]; simp
      · exact .inl ⟨j, by omega, e, h⟩
theorem schulze_some {m : Int} {vs : List Vt} (hp : profOk m vs = true) : 0 < (schulzeR m vs).length ∧ ∀ x ∈ schulzeR m vs, 0 ≤ x ∧ x < m := by
  have F := pf_of hp
  obtain ⟨M, rfl⟩ : ∃ M : Nat, m = (M : Int) := ⟨m.toNat, by have := F.m1; omega⟩
  have M1 : 0 < M := by have := F.m1; omega
  unfold schulzeR thoseR thoseP
  rw [hp, if_pos rfl, Int.toNat_natCast]
  have hcl := fun k a c => fwO_closed (strI vs) M M (Nat.le_refl _) k a c
  have hs : strength vs M = fwO (strI vs) M M := rfl
  rw [← hs] at hcl
  generalize strength vs M = s at *
  constructor
  · obtain ⟨a, ha, hb⟩ := top_of M M1 (fun x y => s y x < s x y ∧ x ≠ y) (fun a h => h.2 rfl) (fun a b c ha hb hc h1 h2 => by
      have hac : a ≠ c := by rintro rfl; omega
      have q1 := hcl b a c hb ha hc hac
      have q2 := hcl b c a hb hc ha (Ne.symm hac)
      have q3 := hcl c b a hc hb ha (Ne.symm h1.2)
      have q4 := hcl a c b ha hc hb (Ne.symm h2.2)
      have := h1.1
      have := h2.1
      have q5 := hcl a b c ha hb hc h2.2
      have q6 := hcl c a b hc ha hb h1.2
      refine ⟨?_, hac⟩
      omega)
    refine List.length_pos_of_mem (a := (a : Int)) (thoseTo_mem.2 ⟨a, ha, rfl, fun b hbM => ?_⟩)
    by_cases e : a = b
    · subst e; simp
    · have := hb b hbM
      have h2 : s b a ≤ s a b := by
        by_cases h : s b a ≤ s a b
        · exact h
        · exact absurd ⟨by omega, Ne.symm e⟩ this
      unfold schulF
      simp [h2]
  · intro x hx
    obtain ⟨j, hj, rfl, _⟩ := thoseTo_mem.1 hx
    omega
theorem greatTo_mem {xs : List Int} : ∀ {k : Nat} {x : Int}, x ∈ greatTo xs k ↔ ∃ j : Nat, j < k ∧ x = (j : Int) ∧ ix xs j = lmax xs
  | 0, x => by simp [greatTo]
  | k + 1, x => by
    rw [greatTo, List.mem_append, greatTo_mem]
    constructor
    · rintro (⟨j, hj, e, h⟩ | h)
      · exact ⟨j, by omega, e, h⟩
      · split at h
        · rename_i ha
          rw [List.mem_singleton] at h
          exact ⟨k, by omega, h, ha⟩
        · simp at h
    · rintro ⟨j, hj, e, h⟩
      by_cases ejk : j = k
      · subst ejk
        right
        rw [if_pos h, e]; simp
      · exact .inl ⟨j, by omega, e, h⟩
theorem greatest_bd {xs : List Int} {m : Int} (h : (xs.length : Int) = m) (h0 : 1 ≤ m) : 0 < (greatest xs).length ∧ ∀ x ∈ greatest xs, 0 ≤ x ∧ x < m := by
  refine ⟨greatest_pos (by omega), fun x hx => ?_⟩
  obtain ⟨j, hj, rfl, _⟩ := greatTo_mem.1 hx
  omega
theorem elim_mem (wf : List Int → Int → Int) : ∀ k (left : List Int), k ≤ left.length → ∀ x ∈ elim wf k left, x ∈ left
  | 0, left, _, x, h => by simp [elim] at h
  | k + 1, left, hk, x, h => by
    have hw : worst wf left < left.length := worstTo_lt _ _ _ (by omega)
    rw [elim, List.mem_cons] at h
    rcases h with rfl | h
    · exact ix_mem hw
    · exact List.mem_of_mem_eraseIdx (elim_mem wf k _ (by rw [List.length_eraseIdx, if_pos hw]; omega) x h)
theorem upE_bd {M : Nat} {x : Int} (h : x ∈ upE M) : 0 ≤ x ∧ x < M := by
  obtain ⟨j, hj, rfl⟩ := upE_mem h
  omega
theorem last_mem {xs : List Int} (h : 0 < xs.length) : lastI xs ∈ xs := by
  unfold lastI
  rw [if_neg (by omega)]
  exact ix_mem (by omega)
theorem elimR_bd {wf : List Int → Int → Int} {m : Int} {vs : List Vt} (hp : profOk m vs = true) : 0 ≤ lastI (elimR wf m vs) ∧ lastI (elimR wf m vs) < m := by
  have F := pf_of hp
  have h : elimR wf m vs = elim wf m.toNat (upE m.toNat) := by unfold elimR; rw [hp]; rfl
  rw [h]
  have m1 := F.m1
  have h1 := last_mem (xs := elim wf m.toNat (upE m.toNat)) (by rw [elim_len]; omega)
  have h2 := upE_bd (elim_mem wf _ _ (by rw [upE_len]; exact Nat.le_refl _) _ h1)
  omega
theorem runoff_bd {m : Int} {vs : List Vt} (hp : profOk m vs = true) : 0 ≤ runoffW m vs ∧ runoffW m vs < m := by
  have F := pf_of hp
  have m1 := F.m1
  unfold runoffW
  rw [hp, if_pos rfl]
  by_cases h1 : m = 1
  · rw [if_pos h1]; omega
  · rw [if_neg h1]
    have a0 := sortS_at (rs := scores m vs (plurW m)) (k := m.toNat) (j := 0) (by omega)
    have a1 := sortS_at (rs := scores m vs (plurW m)) (k := m.toNat) (j := 1) (by omega)
    unfold roT
    split <;> omega
theorem bucklin_bd {m : Int} {vs : List Vt} (hp : profOk m vs = true) : 0 ≤ bucklinW m vs ∧ bucklinW m vs < m := by
  have F := pf_of hp
  have m1 := F.m1
  have hl : 0 ≤ buckLevel m vs := by
    unfold buckLevel
    rw [hp, if_pos rfl]
    split <;> omega
  unfold bucklinW
  split
  · omega
  · have h := greatest_bd (xs := amongL m vs (buckLevel m vs)) (m := m) (by rw [amongL_len]; omega) m1
    exact h.2 _ (ix_mem h.1)
theorem prk_bd {kept : List (List Int)} (ha : Acyc kept) : ∀ k (left : List Int), k ≤ left.length → ∀ x ∈ prk kept k left, x ∈ left
  | 0, left, _, x, h => by simp [prk] at h
  | k + 1, left, hk, x, h => by
    have hw := (freeAt_ok ha (left := left) (by omega)).2.1
    rw [prk, List.mem_cons] at h
    rcases h with rfl | h
    · exact ix_mem hw
    · exact List.mem_of_mem_eraseIdx (prk_bd ha k _ (by rw [List.length_eraseIdx, if_pos hw]; omega) x h)
theorem winners_bd {rule m : Int} {vs : List Vt} (hp : profOk m vs = true) (h1 : 1 ≤ rule) (h13 : rule ≤ 13) : 0 < (winnersR rule m vs).length ∧ ∀ x ∈ winnersR rule m vs, 0 ≤ x ∧ x < m := by
  have F := pf_of hp
  have m1 := F.m1
  have m5 := F.m5
  rw [winnersR_yes hp]
  have one : ∀ y : Int, 0 ≤ y ∧ y < m → 0 < [y].length ∧ ∀ x ∈ [y], 0 ≤ x ∧ x < m := fun y hy => ⟨by simp, fun x hx => by rw [List.mem_singleton] at hx; subst hx; exact hy⟩
  have sc : ∀ ws, weightsOk m ws = true → 0 < (greatest (scoresR m vs ws)).length ∧ ∀ x ∈ greatest (scoresR m vs ws), 0 ≤ x ∧ x < m := fun ws hw => by
    refine greatest_bd ?_ m1
    unfold scoresR
    rw [hp, hw]
    show (((scores m vs ws).length : Nat) : Int) = m
    rw [scores_len]; omega
  unfold winnersP
  obtain rfl | rfl | rfl | rfl | rfl | rfl | rfl | rfl | rfl | rfl | rfl | rfl | rfl : rule = 1 ∨ rule = 2 ∨ rule = 3 ∨ rule = 4 ∨ rule = 5 ∨ rule = 6 ∨ rule = 7 ∨ rule = 8 ∨ rule = 9 ∨ rule = 10 ∨ rule = 11 ∨ rule = 12 ∨ rule = 13 := by omega
  all_goals simp only [Int.reduceEq, if_true, if_false]
  · exact sc _ (plur_ok m1 m5)
  · exact sc _ (bord_ok m1 m5)
  · exact sc _ (veto_ok m1 m5)
  · refine greatest_bd ?_ m1
    unfold copelandR; rw [hp, if_pos rfl, copeland, lfn_len]; omega
  · refine greatest_bd ?_ m1
    unfold maximinR; rw [hp, if_pos rfl, maximin, lfn_len]; omega
  · exact one _ (runoff_bd hp)
  · exact one _ (elimR_bd hp)
  · exact one _ (elimR_bd hp)
  · exact one _ (elimR_bd hp)
  · exact one _ (bucklin_bd hp)
  · exact schulze_some hp
  · refine one _ ?_
    have h0 := ix_mem (pairsRank_len F)
    have := upE_bd (prk_bd (lockedP_acyc vs m.toNat) _ _ (by rw [upE_len]; exact Nat.le_refl _) _ h0)
    omega
  · refine one _ ?_
    have h0 := rank_some m1 m5
    have h1 := rank_all' m1 m5 (rx_mem (minIx_lt (kem vs) (allRankings m) _ h0))
    have h2 := rankOk_facts h1
    exact h2.2.2.2 0 (by have := h2.2.2.1; omega)
theorem winner_bd {rule m : Int} {vs : List Vt} (hp : profOk m vs = true) (h1 : 1 ≤ rule) (h13 : rule ≤ 13) : 0 ≤ winnerR rule m vs ∧ winnerR rule m vs < m := by
  obtain ⟨h2, h3⟩ := winners_bd hp h1 h13
  unfold winnerR
  rw [if_neg (by omega)]
  exact h3 _ (ix_mem h2)
end Go.Proofs.YtaanppihgldeaaaGreatDoor
namespace Go.Proofs.YtaanppihgldeaaaGreatDoor
set_option linter.unusedSimpArgs false
set_option linter.unusedVariables false
set_option linter.unusedVariables false
open Go.RowKit

set_option maxHeartbeats 400000 in
theorem clone_any (A : Option Addr) (n c : Nat) (xs : List Int) (w : World) (h : IntsAt w A n xs) (hn : n ≤ 1048576) :
    Calls Tryz.prog 73 #[.slice A n c] w fun e w' => ∃ A' c', e = .returned (.slice A' n c') ∧ OwnI w' w.heap.size w'.heap.size (.slice A' n c') xs ∧ Below w.heap.size w w' := by
  have he := Lib.run_eql_slice_nil (P := Tryz.prog) w 27 3 A n c 0 0 Tryz.underlying27
  cases A with
  | none =>
    have hn0 : n = 0 := by
      rcases Nat.eq_zero_or_pos n with h0 | h0
      · exact h0
      · obtain ⟨b, o, e, _⟩ := h.2 h0
        cases e
    subst hn0
    have hx : xs = [] := List.eq_nil_of_length_eq_zero h.1
    subst hx
    simp only [Option.isNone_none] at he
    go_enter Tryz.func73, Tryz.ntmps73
    go_wp2
    go_ret
    exact ⟨none, 0, rfl, OwnI.nil _ _ _, Below.refl _ _⟩
  | some a =>
    simp only [Option.isNone_some] at he
    have hb := (Below.refl w.heap.size w).alloc (Nat.le_refl _) (.cells #[] 3)
    go_enter Tryz.func73, Tryz.ntmps73
    go_wp2_with (at_builtin; refine wpList_append_ints _ rfl _ _ rfl w.heap.size (w.heap.size + 1) 0 0 _ [] rfl (OwnI.empty w (Nat.le_refl _) (by omega)) (some a) n c xs rfl (h.below hb) (by omega) (by simp) (by simp) ?_)
    intro A' c' w1 ho hon
    have hb2 := hb.trans (hon.toBelow (Nat.le_refl _) (by simp))
    clear hon hb he
    go_wp2
    go_ret
    exact ⟨_, _, rfl, ho, hb2⟩
end Go.Proofs.YtaanppihgldeaaaGreatDoor
namespace Go.Proofs.YtaanppihgldeaaaGreatDoor
set_option linter.unusedSimpArgs false
set_option linter.unusedVariables false
set_option linter.unusedVariables false
open Go.RowKit

theorem vx_eta (v : Vt) : (⟨v.r, v.c⟩ : Vt) = v := rfl
set_option maxRecDepth 100000 in
set_option maxHeartbeats 2000000 in
theorem implClone (m : Int) (A : Option Addr) (n c : Nat) (vs : List Vt) (w : World) (h : VotesAt w A n vs) (hn : n ≤ 1048576) (hx : ∀ v ∈ vs, v.r.length ≤ 1048576) :
    Calls Tryz.prog 75 #[.agg #[.int .i64 m, .slice A n c]] w fun e w' => ∃ A' c', e = .returned (.agg #[.int .i64 m, .slice A' n c']) ∧ OwnV w' w.heap.size w'.heap.size (.slice A' n c') vs ∧ Below w.heap.size w w' := by
  have hv0 := h
  obtain rfl := h.len
  have hB := alloc_below w (.cells #[.int .i64 m, .slice A vs.length c] 24)
  obtain ⟨x0, x1⟩ := PBox.new w m A vs.length c 24 rfl
  replace h := h.below hB
  generalize hw0 : w.alloc (.cells #[.int .i64 m, .slice A vs.length c] 24) = w0 at *
  have HX := Lib.hid hx
  clear hx
  have s0 : w0.heap.size = w.heap.size + 1 := by rw [← hw0]; simp
  have b1 := alloc_below w0 (.cells #[.int .i64 0, .slice none 0 0] 24)
  obtain ⟨r0, r1⟩ := PBox.new w0 0 none 0 0 24 s0.symm
  have rf0 := new_free w0 #[.int .i64 0, .slice none 0 0] 24 s0.symm 0
  have rf1 := new_free w0 #[.int .i64 0, .slice none 0 0] 24 s0.symm 1
  replace x0 := cell_carry b1 x0
  replace x1 := cell_carry b1 x1
  replace h := h.below b1
  replace hB := hB.trans (b1.mono hB.size)
  have s1 : (w0.alloc (.cells #[.int .i64 0, .slice none 0 0] 24)).heap.size = w.heap.size + 2 := by simp [s0]
  clear b1
  generalize hw1 : w0.alloc (.cells #[.int .i64 0, .slice none 0 0] 24) = w1 at *
  have b2 := alloc_below w1 (.cells #[.int .i64 m, .slice none 0 0] 24)
  obtain ⟨z0, z1⟩ := PBox.new w1 m none 0 0 24 s1.symm
  have zf1 := new_free w1 #[.int .i64 m, .slice none 0 0] 24 s1.symm 1
  have x0a := x0
  have rf0' := old_free r0 rf0 (.cells #[.int .i64 m, .slice none 0 0] 24)
  have rf1' := old_free r1 rf1 (.cells #[.int .i64 m, .slice none 0 0] 24)
  replace r0 := cell_carry b2 r0
  replace r1 := cell_carry b2 r1
  replace x0 := cell_carry b2 x0
  replace x1 := cell_carry b2 x1
  replace h := h.below b2
  replace hB := hB.trans (b2.mono hB.size)
  have s2 : (w1.alloc (.cells #[.int .i64 m, .slice none 0 0] 24)).heap.size = w.heap.size + 3 := by simp [s1]
  clear b2 rf0 rf1
  generalize hw2 : w1.alloc (.cells #[.int .i64 m, .slice none 0 0] 24) = w2 at *
  go_enter Tryz.func75, Tryz.ntmps75
  go_wp2
  clear hw2 hw1 hw0 x0 x0a x1
  have z1' := World.cell?_setCell_same w2 ⟨w.heap.size + 2, 1, none⟩ (.slice none 0 0) z1
  have z0' := (World.cell?_setCell_other w2 ⟨w.heap.size + 2, 1, none⟩ ⟨w.heap.size + 2, 0, none⟩ (.slice none 0 0) (by simp)).trans z0
  have zf' : (w2.setCell ⟨w.heap.size + 2, 1, none⟩ (.slice none 0 0)).frozen? ⟨w.heap.size + 2, 1, none⟩ = false := by rw [World.frozen?_setCell]; exact zf1
  have hb' : Below (w.heap.size + 2) w2 (w2.setCell ⟨w.heap.size + 2, 1, none⟩ (.slice none 0 0)) := (Below.refl _ _).setCell (p := ⟨w.heap.size + 2, 1, none⟩) (Nat.le_refl _) _
  have zs' : w.heap.size + 3 ≤ (w2.setCell ⟨w.heap.size + 2, 1, none⟩ (.slice none 0 0)).heap.size := by rw [World.size_setCell]; omega
  clear z0 z1 zf1
  go_loopw [5, 12] (fun _ i wr => ∃ (k : Nat) (A1 : Option Addr) (c1 : Nat), k ≤ vs.length ∧ i = .int .i64 k ∧ wr.cell? ⟨w.heap.size + 2, 0, none⟩ = some (.int .i64 m) ∧ wr.cell? ⟨w.heap.size + 2, 1, none⟩ = some (.slice A1 k c1) ∧ wr.frozen? ⟨w.heap.size + 2, 1, none⟩ = false ∧
    OwnV wr (w.heap.size + 3) wr.heap.size (.slice A1 k c1) (vs.take k) ∧ Below (w.heap.size + 2) w2 wr ∧ w.heap.size + 3 ≤ wr.heap.size) (fun _ i _ => vs.length - (intOf i).toNat)
  case atStart => exact ⟨0, none, 0, Nat.zero_le _, rfl, z0', z1', zf', by rw [List.take_zero]; exact OwnV.nil _ _ _, hb', zs'⟩
  case round =>
    clear z0' z1' zf' hb' zs'
    obtain ⟨k, A1, c1, hk, rfl, z0, z1, zf1, hown, hb, zr⟩ := hrel
    have hbw := hB.trans (hb.mono (by omega))
    by_cases hlt : k < vs.length
    · obtain ⟨b, o, A', c', rfl, hbl, hc1, hc2, hcc, hin⟩ := (hv0.below hbw).at_ hlt
      have HT := Lib.hid (take_vx hlt)
      have hxv := HX.out _ (vx_mem hlt)
      generalize vx vs k = v at *
      have b1 := alloc_below wr (.cells #[.slice A' v.r.length c', .int .i64 v.c] 44)
      obtain ⟨y0, y1⟩ := new_pair wr (.slice A' v.r.length c') (.int .i64 v.c) 44 rfl
      have hin2 := hin.below b1
      have hown2 := hown.belowW b1
      have zf2 := old_free z1 zf1 (.cells #[.slice A' v.r.length c', .int .i64 v.c] 44)
      replace z0 := cell_carry b1 z0
      replace z1 := cell_carry b1 z1
      have hb2 := hb.trans (b1.mono (by omega))
      have zr2 : (wr.alloc (.cells #[.slice A' v.r.length c', .int .i64 v.c] 44)).heap.size = wr.heap.size + 1 := by simp
      have gy : wr.heap.size ≠ w.heap.size + 2 := by omega
      clear b1 hin hown zf1 hb hbw
      generalize hw4 : wr.alloc (.cells #[.slice A' v.r.length c', .int .i64 v.c] 44) = w4 at *
      go_wp2
      clear hw4
      have hin3 : IntsAt w4.drew A' v.r.length v.r := hin2
      have hown3 : OwnV w4.drew (w.heap.size + 3) wr.heap.size (.slice A1 k c1) (vs.take k) := hown2
      have y1d : w4.drew.cell? ⟨wr.heap.size, 1, none⟩ = some (.int .i64 v.c) := y1
      have z0d : w4.drew.cell? ⟨w.heap.size + 2, 0, none⟩ = some (.int .i64 m) := z0
      have z1d : w4.drew.cell? ⟨w.heap.size + 2, 1, none⟩ = some (.slice A1 k c1) := z1
      have zfd : w4.drew.frozen? ⟨w.heap.size + 2, 1, none⟩ = false := zf2
      have h4d : Below (w.heap.size + 2) w2 w4.drew := hb2.drew
      have zrd : w4.drew.heap.size = wr.heap.size + 1 := zr2
      clear hin2 hown2
      go_region_law (first
        | (refine step_append_V _ (by rfl) _ _ (by rfl) (w.heap.size + 3) wr.heap.size k c1 A1 (vs.take k) (by rfl) (hown8.alloc _) A8 v.r.length c8 v.r v.c w4.drew.heap.size w8.heap.size (o8.alloc _) (by omega) (by simp) w8.heap.size 1 (by rfl) (new_pair w8 _ _ _ rfl).1 (new_pair w8 _ _ _ rfl).2 (by omega) (by omega) (by simp; omega) ?_; intro A9 c9 w9 ho9 on9; have z1_9 := on9.cell (old_cell z1_8 _) (by show ¬ (_ ≤ w.heap.size + 2 ∧ _); omega); have z0_9 := on9.cell (old_cell z0_8 _) (by show ¬ (_ ≤ w.heap.size + 2 ∧ _); omega); have zf9 := on9.frozen (p := ⟨w.heap.size + 2, 1, none⟩) (old_cell z1_8 _) (old_free z1_8 zf8 _) (by show ¬ (_ ≤ w.heap.size + 2 ∧ _); omega))
        | (go_simp; go_at_call 73; (with_reducible refine (clone_any A' _ c' v.r _ hin3 (by omega)).mono ?_); rintro er w8 ⟨A8, c8, rfl, o8, b8⟩; have hs8 := b8.size; have hown8 := hown3.belowW b8; have y1_8 := cell_carry b8 y1d; have z1_8 := cell_carry b8 z1d; have z1_8a := old_cell z1_8 (.cells #[.slice A8 v.r.length c8, .int .i64 v.c] 44); have z0_8 := cell_carry b8 z0d; have zf8 := (b8.frozen (p := ⟨w.heap.size + 2, 1, none⟩) (cell_lt z1d)).trans zfd))
      all_goals
        rw [show vs.take k ++ [(⟨v.r, v.c⟩ : Vt)] = vs.take (k + 1) from HT.out.symm] at ho9
        have q1 := Lib.hid (World.cell?_setCell_same w9 ⟨w.heap.size + 2, 1, none⟩ (.slice A9 (k + 1) c9) z1_9)
        have q0 := Lib.hid ((World.cell?_setCell_other w9 ⟨w.heap.size + 2, 1, none⟩ ⟨w.heap.size + 2, 0, none⟩ (.slice A9 (k + 1) c9) (by simp)).trans z0_9)
        have qf : Hid ((w9.setCell ⟨w.heap.size + 2, 1, none⟩ (.slice A9 (k + 1) c9)).frozen? ⟨w.heap.size + 2, 1, none⟩ = false) := by show _ = _; rw [World.frozen?_setCell]; exact zf9
        have q8 : w8.heap.size ≤ (w8.alloc (.cells #[.slice A8 v.r.length c8, .int .i64 v.c] 44)).heap.size := by simp
        have q9 : w8.heap.size + 1 ≤ w9.heap.size := by have := on9.size; simp at this; omega
        have hb9 : Below (w.heap.size + 2) w2 w9 := (h4d.trans ((b8.trans ((alloc_below w8 (.cells #[.slice A8 v.r.length c8, .int .i64 v.c] 44)).mono hs8)).mono (by omega))).trans (on9.toBelow (by omega) (by simp; omega))
        have hb10 := Lib.hid (hb9.setCell (p := ⟨w.heap.size + 2, 1, none⟩) (Nat.le_refl _) (.slice A9 (k + 1) c9))
        have on10 : Only (w.heap.size + 2) (w.heap.size + 3) w9 (w9.setCell ⟨w.heap.size + 2, 1, none⟩ (.slice A9 (k + 1) c9)) := ⟨rfl, rfl, rfl, by simp [World.setCell], fun k _ hk => Below.heap_setCell _ _ _ _ (by simp; omega)⟩
        have ho10 := ho9.only on10 (.inr (Nat.le_refl _))
        have z10 : (w9.setCell ⟨w.heap.size + 2, 1, none⟩ (.slice A9 (k + 1) c9)).heap.size = w9.heap.size := World.size_setCell _ _ _
        rw [← z10] at ho10
        have HO := Lib.hid ho10
        have ZZ := Lib.hid (show w.heap.size + 3 ≤ (w9.setCell ⟨w.heap.size + 2, 1, none⟩ (.slice A9 (k + 1) c9)).heap.size by omega)
        clear on9 ho9 b8 o8 hown8 y1_8 z1_8 z1_8a z0_8 zf8 z0_9 hb9 on10 ho10 z10
        go_wp2
        go_roundw
        case rel => exact ⟨k + 1, A9, c9, by omega, by go_num, q0.out, q1.out, qf.out, HO.out, hb10.out, ZZ.out⟩
        case measure => simp [intOf]; omega
    · obtain rfl : k = vs.length := by omega
      rw [List.take_length] at hown
      have r0' := (hb.cell (p := ⟨w.heap.size + 1, 0, none⟩) (by show w.heap.size + 1 < _; omega)).trans r0
      have r1' := (hb.cell (p := ⟨w.heap.size + 1, 1, none⟩) (by show w.heap.size + 1 < _; omega)).trans r1
      have f0' := (hb.frozen (p := ⟨w.heap.size + 1, 0, none⟩) (by show w.heap.size + 1 < _; omega)).trans rf0'
      have f1' := (hb.frozen (p := ⟨w.heap.size + 1, 1, none⟩) (by show w.heap.size + 1 < _; omega)).trans rf1'
      have E2 := Lib.hid (pair_set r0' r1' (.int .i64 m) (.slice A1 vs.length c1))
      have n1 : Only (w.heap.size + 1) (w.heap.size + 2) wr (wr.setCell ⟨w.heap.size + 1, 0, none⟩ (.int .i64 m)) := ⟨rfl, rfl, rfl, by simp [World.setCell], fun k _ hk => Below.heap_setCell _ _ _ _ (by simp; omega)⟩
      have n2 : Only (w.heap.size + 1) (w.heap.size + 2) (wr.setCell ⟨w.heap.size + 1, 0, none⟩ (.int .i64 m)) ((wr.setCell ⟨w.heap.size + 1, 0, none⟩ (.int .i64 m)).setCell ⟨w.heap.size + 1, 1, none⟩ (.slice A1 vs.length c1)) := ⟨rfl, rfl, rfl, by simp [World.setCell], fun k _ hk => Below.heap_setCell _ _ _ _ (by simp; omega)⟩
      have n3 := n1.trans n2
      have ho := (hown.only n3 (.inr (by omega))).mono (show w.heap.size ≤ w.heap.size + 3 by omega) n3.size
      have HO := Lib.hid ho
      have HBB := Lib.hid (hbw.trans (n3.toBelow (by omega) (by omega)))
      clear n1 n2 n3 ho hown hbw hb r0 r1 rf0' rf1'
      go_wp2
      obtain ⟨e0, e1⟩ := E2.out
      exact bodyPost_ret (v := .agg #[.int .i64 m, .slice A1 vs.length c1]) (by simp [results, Tryz.results75, go_sem, e0, e1]) rfl ⟨A1, c1, rfl, HO.out, HBB.out⟩
end Go.Proofs.YtaanppihgldeaaaGreatDoor
namespace Go.Proofs.YtaanppihgldeaaaGreatDoor
set_option linter.unusedSimpArgs false
set_option linter.unusedVariables false
set_option linter.unusedVariables false
open Go.RowKit

set_option maxRecDepth 100000 in
set_option maxHeartbeats 2000000 in
theorem implWithRanking (m : Int) (A : Option Addr) (n c : Nat) (vs : List Vt) (k : Nat) (B : Option Addr) (d : Nat) (r : List Int) (w : World) (h : VotesAt w A n vs) (hn : n ≤ 1048576) (hx : ∀ v ∈ vs, v.r.length ≤ 1048576) (hp : profOk m vs = true) (hk : k < n) (g : IntsAt w B r.length r) (hd : r.length ≤ d) (hr : rankOk m r = true) :
    Calls Tryz.prog 30 #[.agg #[.int .i64 m, .slice A n c], .int .i64 (k : Int), .slice B r.length d] w fun e w' => ∃ A' c', e = .returned (.tuple #[.agg #[.int .i64 m, .slice A' n c'], .bool true]) ∧ OwnV w' w.heap.size w'.heap.size (.slice A' n c') (setR vs k r) ∧ Below w.heap.size w w' := by
  have g00 := g
  obtain rfl := h.len
  have hB := alloc_below w (.cells #[.int .i64 m, .slice A vs.length c] 24)
  obtain ⟨x0, x1⟩ := PBox.new w m A vs.length c 24 rfl
  replace h := h.below hB
  generalize hw0 : w.alloc (.cells #[.int .i64 m, .slice A vs.length c] 24) = w0 at *
  have s0 : w0.heap.size = w.heap.size + 1 := by rw [← hw0]; simp
  have g0 := g00.below hB
  have rl : r.length ≤ 5 := by have := (rankOk_facts hr).2; omega
  have b1 := alloc_below w0 (.cells #[.int .i64 0, .slice none 0 0] 24)
  obtain ⟨r0, r1⟩ := PBox.new w0 0 none 0 0 24 rfl
  have rf0 := new_free w0 #[.int .i64 0, .slice none 0 0] 24 rfl 0
  have rf1 := new_free w0 #[.int .i64 0, .slice none 0 0] 24 rfl 1
  replace x0 := cell_carry b1 x0
  replace x1 := cell_carry b1 x1
  replace h := h.below b1
  replace g0 := g0.below b1
  replace hB := hB.trans (b1.mono hB.size)
  have s1 : (w0.alloc (.cells #[.int .i64 0, .slice none 0 0] 24)).heap.size = w.heap.size + 2 := by simp [s0]
  clear b1 g00 g
  generalize hw1 : w0.alloc (.cells #[.int .i64 0, .slice none 0 0] 24) = w1 at *
  have K := Lib.hid (implProfileOk m A vs.length c vs w1 h hn hx)
  rw [hp] at K
  have KR := Lib.hid (fun W hW => implRankingOk m B r.length d r W hW (by omega) hd)
  rw [hr] at KR
  have KC := Lib.hid (fun W hW => implClone m A vs.length c vs W hW hn hx)
  have hk1 : inB (k : Int) 0 ((vs.length : Int) - 1) = true := inB_iff.2 ⟨by omega, by omega⟩
  have ew : IntKind.i64.wrap ((vs.length : Int) - 1) = (vs.length : Int) - 1 := IntWalk.i64_in _ (by omega)
  have S0 := Lib.hid s0
  have S1 := Lib.hid s1
  clear hx hp hr s0 s1
  go_enter Tryz.func30, Tryz.ntmps30
  go_wp2_with fail
  (with_reducible refine K.out.mono ?_)
  rintro e w2 ⟨rfl, b2⟩
  have s2 := b2.size
  replace x0 := cell_carry b2 x0
  replace x1 := cell_carry b2 x1
  replace rf0 := (b2.frozen (p := ⟨w0.heap.size, 0, none⟩) (cell_lt r0)).trans rf0
  replace rf1 := (b2.frozen (p := ⟨w0.heap.size, 1, none⟩) (cell_lt r1)).trans rf1
  replace r0 := cell_carry b2 r0
  replace r1 := cell_carry b2 r1
  replace h := h.below b2
  replace g0 := g0.below b2
  replace hB := hB.trans (b2.mono hB.size)
  clear b2 K hw1 hw0
  go_wp2_with fail
  (with_reducible refine (within_any _ _ _ _).mono ?_)
  rintro e w3 ⟨rfl, rfl⟩
  rw [hk1]
  go_wp2_with fail
  (with_reducible refine (KR.out _ g0).mono ?_)
  rintro e w3 ⟨rfl, rfl⟩
  go_wp2_with fail
  (with_reducible refine (KC.out _ h).mono ?_)
  rintro e w3 ⟨A3, c3, rfl, o3, b3⟩
  have s3 := b3.size
  replace rf0 := (b3.frozen (p := ⟨w0.heap.size, 0, none⟩) (cell_lt r0)).trans rf0
  replace rf1 := (b3.frozen (p := ⟨w0.heap.size, 1, none⟩) (cell_lt r1)).trans rf1
  replace r0 := cell_carry b3 r0
  replace r1 := cell_carry b3 r1
  replace g0 := g0.below b3
  replace hB := hB.trans (b3.mono hB.size)
  obtain ⟨g3, rfl, g31, g32, g33⟩ := o3.head (show 0 < vs.length by omega)
  clear b3 KR KC h x0 x1
  have b4 := alloc_below w3 (.cells #[.int .i64 m, .slice (some ⟨g3, 0, none⟩) vs.length c3] 24)
  obtain ⟨z0, z1⟩ := PBox.new w3 m (some ⟨g3, 0, none⟩) vs.length c3 24 rfl
  have o4 := o3.alloc (.cells #[.int .i64 m, .slice (some ⟨g3, 0, none⟩) vs.length c3] 24)
  replace rf0 := old_free r0 rf0 (.cells #[.int .i64 m, .slice (some ⟨g3, 0, none⟩) vs.length c3] 24)
  replace rf1 := old_free r1 rf1 (.cells #[.int .i64 m, .slice (some ⟨g3, 0, none⟩) vs.length c3] 24)
  replace r0 := cell_carry b4 r0
  replace r1 := cell_carry b4 r1
  replace g0 := g0.below b4
  replace hB := hB.trans (b4.mono hB.size)
  have s4 : (w3.alloc (.cells #[.int .i64 m, .slice (some ⟨g3, 0, none⟩) vs.length c3] 24)).heap.size = w3.heap.size + 1 := by simp
  clear b4 o3
  generalize hw4 : w3.alloc (.cells #[.int .i64 m, .slice (some ⟨g3, 0, none⟩) vs.length c3] 24) = w4 at *
  go_wp2
  clear hw4
  obtain ⟨⟨u, cu⟩, fu⟩ := o4.cells k hk
  have kk : (k : Int) < (vs.length : Int) := by omega
  have g0d : IntsAt w4.drew B r.length r := g0
  have z1d : w4.drew.cell? ⟨w3.heap.size, 1, none⟩ = some (.slice (some ⟨g3, 0, none⟩) vs.length c3) := z1
  have z0d : w4.drew.cell? ⟨w3.heap.size, 0, none⟩ = some (.int .i64 m) := z0
  have o4d : OwnV w4.drew w2.heap.size w3.heap.size (.slice (some ⟨g3, 0, none⟩) vs.length c3) vs := o4
  have cud : w4.drew.cell? ⟨g3, k * 2, none⟩ = some u := cu
  have fud : w4.drew.frozen? ⟨g3, k * 2, none⟩ = false := fu
  have s4d : w4.drew.heap.size = w3.heap.size + 1 := s4
  go_region_law (first
    | (go_simp; go_at_call 73; (with_reducible refine (clone_any B _ d r _ g0d (by omega)).mono ?_); rintro er w8 ⟨A8, c8, rfl, o8, b8⟩; have z1_8 := cell_carry b8 z1d; have z0_8 := cell_carry b8 z0d; have cu8 := cell_carry b8 cud; have fu8 := (b8.frozen (p := ⟨g3, k * 2, none⟩) (cell_lt cud)).trans fud))
  all_goals
    have S8 := b8.size
    have o8b := o4d.belowW b8
    have hz8 : w3.heap.size ≤ w8.heap.size := by omega
    obtain ⟨O9, N9⟩ := o8b.stored (H := w8.heap.size) k hk o8 (by omega) (Nat.le_refl _) s3 hz8
    have nz : w3.heap.size ≠ g3 := by omega
    have q1 := N9.cell z1_8 (by show ¬ (_ ≤ w3.heap.size ∧ w3.heap.size < _); omega)
    have q0 := N9.cell z0_8 (by show ¬ (_ ≤ w3.heap.size ∧ w3.heap.size < _); omega)
    have S0' : w.heap.size < w0.heap.size := by have := S0.out; omega
    have S1' : w0.heap.size < w1.heap.size := by have h1 := S0.out; have h2 := S1.out; omega
    have r0' := N9.cell (cell_carry (w := w4.drew) b8 r0) (by show ¬ (_ ≤ w0.heap.size ∧ w0.heap.size < _); omega)
    have r1' := N9.cell (cell_carry (w := w4.drew) b8 r1) (by show ¬ (_ ≤ w0.heap.size ∧ w0.heap.size < _); omega)
    have f0' := N9.frozen (p := ⟨w0.heap.size, 0, none⟩) (cell_carry (w := w4.drew) b8 r0) ((b8.frozen (p := ⟨w0.heap.size, 0, none⟩) (cell_lt r0)).trans rf0) (by show ¬ (_ ≤ w0.heap.size ∧ w0.heap.size < _); omega)
    have f1' := N9.frozen (p := ⟨w0.heap.size, 1, none⟩) (cell_carry (w := w4.drew) b8 r1) ((b8.frozen (p := ⟨w0.heap.size, 1, none⟩) (cell_lt r1)).trans rf1) (by show ¬ (_ ≤ w0.heap.size ∧ w0.heap.size < _); omega)
    have HB9 : Below w.heap.size w (w8.setCell ⟨g3, k * 2, none⟩ (.slice A8 r.length c8)) := (hB.trans (((Below.refl _ w4).drew.trans b8).mono hB.size)).trans (N9.toBelow (by omega) (by omega))
    have z9 : (w8.setCell ⟨g3, k * 2, none⟩ (.slice A8 r.length c8)).heap.size = w8.heap.size := World.size_setCell _ _ _
    clear N9 o8b o4d
    generalize w8.setCell ⟨g3, k * 2, none⟩ (.slice A8 r.length c8) = w9 at *
    have E2 := Lib.hid (pair_set r0' r1' (.int .i64 m) (.slice (some ⟨g3, 0, none⟩) vs.length c3))
    have n1 : Only w0.heap.size (w0.heap.size + 1) w9 (w9.setCell ⟨w0.heap.size, 0, none⟩ (.int .i64 m)) := ⟨rfl, rfl, rfl, by simp [World.setCell], fun k _ hk => Below.heap_setCell _ _ _ _ (by simp; omega)⟩
    have n2 : Only w0.heap.size (w0.heap.size + 1) (w9.setCell ⟨w0.heap.size, 0, none⟩ (.int .i64 m)) ((w9.setCell ⟨w0.heap.size, 0, none⟩ (.int .i64 m)).setCell ⟨w0.heap.size, 1, none⟩ (.slice (some ⟨g3, 0, none⟩) vs.length c3)) := ⟨rfl, rfl, rfl, by simp [World.setCell], fun k _ hk => Below.heap_setCell _ _ _ _ (by simp; omega)⟩
    have n3 := n1.trans n2
    have n3s := n3.size
    have HO : Hid (OwnV ((w9.setCell ⟨w0.heap.size, 0, none⟩ (.int .i64 m)).setCell ⟨w0.heap.size, 1, none⟩ (.slice (some ⟨g3, 0, none⟩) vs.length c3)) w.heap.size ((w9.setCell ⟨w0.heap.size, 0, none⟩ (.int .i64 m)).setCell ⟨w0.heap.size, 1, none⟩ (.slice (some ⟨g3, 0, none⟩) vs.length c3)).heap.size (.slice (some ⟨g3, 0, none⟩) vs.length c3) (setR vs k r)) :=
      (O9.only n3 (.inr (by omega))).mono (by omega) (by omega)
    have HBB := Lib.hid (HB9.trans (n3.toBelow (by omega) (by omega)))
    clear n1 n2 n3 n3s S0' S1' O9 HB9 b8 o8 r0 r1 rf0 rf1 hB z1 z0 cu fu z1d z0d cud fud z1_8 z0_8 cu8 fu8
    go_wp2
    obtain ⟨e0, e1⟩ := E2.out
    exact bodyPost_ret (v := .tuple #[.agg #[.int .i64 m, .slice (some ⟨g3, 0, none⟩) vs.length c3], .bool true]) (by simp [results, Tryz.results30, go_sem, e0, e1]) rfl ⟨_, _, rfl, HO.out, HBB.out⟩
end Go.Proofs.YtaanppihgldeaaaGreatDoor
namespace Go.Proofs.YtaanppihgldeaaaGreatDoor
set_option linter.unusedSimpArgs false
set_option linter.unusedVariables false
set_option linter.unusedVariables false
open Go.RowKit

theorem setR_ok {m : Int} {vs : List Vt} {k : Nat} {r : List Int} (hp : profOk m vs = true) (hk : k < vs.length) (hr : rankOk m r = true) : profOk m (setR vs k r) = true := by
  have F := pf_of hp
  unfold profOk at hp ⊢
  rw [Bool.and_eq_true, Bool.and_eq_true, List.all_eq_true, decide_eq_true_eq] at hp ⊢
  refine ⟨⟨hp.1.1, by rw [setR_len]; exact hp.1.2⟩, fun v hv => ?_⟩
  rcases setR_mem hv with h | rfl
  · exact hp.2 v h
  · have h2 := hp.2 _ (vx_mem hk)
    unfold voteOk at h2 ⊢
    rw [Bool.and_eq_true] at h2 ⊢
    exact ⟨hr, h2.2⟩
theorem setR_small {m : Int} {vs : List Vt} {k : Nat} {r : List Int} (hx : ∀ v ∈ vs, v.r.length ≤ 1048576) (hr : rankOk m r = true) : ∀ v ∈ setR vs k r, v.r.length ≤ 1048576 := by
  intro v hv
  rcases setR_mem hv with h | rfl
  · exact hx v h
  · have := (rankOk_facts hr).2; show r.length ≤ _; omega
/-- who wins with ranking r in vote k -/
noncomputable def winWith (rule m : Int) (vs : List Vt) (k : Nat) (r : List Int) : Int := winnerR rule m (setR vs k r)
/-- of the first n rankings the first one by which a wins -/
def wayN (f : List Int → Int) (rs : List (List Int)) (n : Nat) (a : Int) : Option (List Int) := (rs.take n).find? (fun r => f r == a)
theorem wayN_succ {f : List Int → Int} {rs : List (List Int)} {n : Nat} (h : n < rs.length) (a : Int) : wayN f rs (n + 1) a = (wayN f rs n a).or (if f (rx rs n) == a then some (rx rs n) else none) := by
  unfold wayN
  have e : rs.take (n + 1) = rs.take n ++ [rx rs n] := by rw [List.take_succ_eq_append_getElem h, rx_lt h]
  rw [e, List.find?_append]
  congr 1
  rw [List.find?_cons]
  cases f (rx rs n) == a <;> rfl
/-- what lies at a place of the ways -/
def WayAt (w : World) (lo hi : Nat) (u : Value) : Option (List Int) → Prop
  | none => u = .slice none 0 0
  | some r => OwnI w lo hi u r ∧ 0 < r.length
theorem WayAt.keep {w w' : World} {lo hi : Nat} {u : Value} {o : Option (List Int)} (h : WayAt w lo hi u o) (hk : ∀ r, OwnI w lo hi u r → OwnI w' lo hi u r) : WayAt w' lo hi u o := by
  cases o with
  | none => exact h
  | some r => exact ⟨hk r h.1, h.2⟩
theorem WayAt.mono {w : World} {lo hi lo' hi' : Nat} {u : Value} {o : Option (List Int)} (h : WayAt w lo hi u o) (hl : lo' ≤ lo) (hh : hi ≤ hi') : WayAt w lo' hi' u o := by
  cases o with
  | none => exact h
  | some r => exact ⟨h.1.mono hl hh, h.2⟩
theorem WayAt.form {w : World} {lo hi : Nat} {u : Value} {o : Option (List Int)} (h : WayAt w lo hi u o) : (o = none ∧ u = .slice none 0 0) ∨ ∃ r g c, o = some r ∧ u = .slice (some ⟨g, 0, none⟩) r.length c ∧ OwnI w lo hi u r ∧ 0 < r.length := by
  cases o with
  | none => exact .inl ⟨rfl, h⟩
  | some r =>
    right
    obtain ⟨A, c, e, _⟩ := h.1.len
    have h1 := h.1
    rw [e] at h1
    obtain ⟨g, rfl, _, _⟩ := h1.head h.2
    exact ⟨r, g, c, rfl, e, h.1, h.2⟩
/-- the ways of the first n rankings lie in the slice v -/
def WaysAt (w : World) (lo hi l2 h2 : Nat) (v : Value) (M : Nat) (g : Int → Option (List Int)) : Prop :=
  ∃ us : List Value, w.ownsRow lo 27 1 v M us ∧ (∀ k, v.ownBlock = some k → k < hi) ∧ ∀ a, a < M → ∃ u, us[a]? = some u ∧ WayAt w l2 h2 u (g (a : Int))
theorem WaysAt.belowW {w w' : World} {lo hi l2 h2 M : Nat} {v : Value} {g : Int → Option (List Int)} (h : WaysAt w lo hi l2 h2 v M g) (b : Below w.heap.size w w') : WaysAt w' lo hi l2 h2 v M g := by
  obtain ⟨us, h1, h0, h3⟩ := h
  exact ⟨us, ownsRow_below h1 b, h0, fun a ha => by obtain ⟨u, e, hu⟩ := h3 a ha; exact ⟨u, e, hu.keep fun r o => o.belowW b⟩⟩
theorem WaysAt.congr {w : World} {lo hi l2 h2 M : Nat} {v : Value} {g g' : Int → Option (List Int)} (h : WaysAt w lo hi l2 h2 v M g) (e : ∀ a : Nat, a < M → g (a : Int) = g' (a : Int)) : WaysAt w lo hi l2 h2 v M g' := by
  obtain ⟨us, h1, h0, h3⟩ := h
  exact ⟨us, h1, h0, fun a ha => by obtain ⟨u, e1, hu⟩ := h3 a ha; exact ⟨u, e1, e a ha ▸ hu⟩⟩
theorem WaysAt.cell {w : World} {lo hi l2 h2 M c gb : Nat} {g : Int → Option (List Int)} (h : WaysAt w lo hi l2 h2 (.slice (some ⟨gb, 0, none⟩) M c) M g) (a : Nat) (ha : a < M) :
    ∃ u, w.cell? ⟨gb, a, none⟩ = some u ∧ w.frozen? ⟨gb, a, none⟩ = false ∧ WayAt w l2 h2 u (g (a : Int)) := by
  obtain ⟨us, h1, h0, h3⟩ := h
  obtain ⟨u, e, hu⟩ := h3 a ha
  exact ⟨u, by rw [World.ownsRow.cellAt h1 a (by omega)]; exact e, World.ownsRow.frozenAt h1 a, hu⟩
theorem WaysAt.store {w : World} {lo hi l2 h2 M c gb : Nat} {g g' : Int → Option (List Int)} {x : Value} {r : List Int} (h : WaysAt w lo hi l2 h2 (.slice (some ⟨gb, 0, none⟩) M c) M g) (y : Nat) (hy : y < M) (hx : OwnI w l2 h2 x r) (h0 : 0 < r.length) (hd : gb < l2)
    (e : ∀ a : Nat, a < M → g' (a : Int) = if a = y then some r else g (a : Int)) : WaysAt (w.setCell ⟨gb, y, none⟩ x) lo hi l2 h2 (.slice (some ⟨gb, 0, none⟩) M c) M g' ∧ Only gb (gb + 1) w (w.setCell ⟨gb, y, none⟩ x) := by
  obtain ⟨us, h1, hh, h3⟩ := h
  have hst := World.ownsRow.stored h1 y x
  have hon : Only gb (gb + 1) w (w.setCell ⟨gb, y, none⟩ x) := Only.of_grown hst.2 fun k e => by cases e; omega
  have hl : us.length = M := by have := h1.1; omega
  refine ⟨⟨us.set y x, hst.1, hh, fun a ha => ?_⟩, hon⟩
  by_cases ea : a = y
  · subst ea
    refine ⟨x, by rw [List.getElem?_set_self (by omega)], ?_⟩
    rw [e a ha, if_pos rfl]
    exact ⟨hx.only hon (.inr (by omega)), h0⟩
  · obtain ⟨u, e1, hu⟩ := h3 a ha
    refine ⟨u, by rw [List.getElem?_set_ne (by omega)]; exact e1, ?_⟩
    rw [e a ha, if_neg ea]
    exact hu.keep fun r o => o.only hon (.inr (by omega))
end Go.Proofs.YtaanppihgldeaaaGreatDoor
namespace Go.Proofs.YtaanppihgldeaaaGreatDoor
set_option linter.unusedSimpArgs false
set_option linter.unusedVariables false
set_option linter.unusedVariables false
open Go.RowKit

theorem perm_of {α : Type} [DecidableEq α] : ∀ (m l : List α), m.Nodup → m ⊆ l → l.length ≤ m.length → l.Perm m
  | [], l, _, _, hl => by
    have : l = [] := List.eq_nil_of_length_eq_zero (by simpa using hl)
    rw [this]
  | a :: m, l, hn, hs, hl => by
    rw [List.nodup_cons] at hn
    have ha : a ∈ l := hs (by simp)
    have h1 := List.perm_cons_erase ha
    have h2 := perm_of m (l.erase a) hn.2 (fun x hx => by
      have hne : x ≠ a := fun e => hn.1 (e ▸ hx)
      exact (List.mem_erase_of_ne hne).2 (hs (by simp [hx]))) (by
      rw [List.length_erase_of_mem ha]
      simp at hl
      omega)
    exact h1.trans (h2.cons a)

theorem nodup_to {xs : List Int} : ∀ k, k ≤ xs.length → (allN (fun i => !has (xs.take i) (ix xs i)) k = true ↔ (xs.take k).Nodup) := by
  intro k hk
  induction k with
  | zero => simp [allN]
  | succ k ih =>
    rw [take_ix (by omega), List.nodup_append]
    simp only [allN, Bool.and_eq_true, ih (by omega), Bool.not_eq_true', has_not]
    constructor
    · rintro ⟨h1, h2⟩
      exact ⟨h1, by simp, fun a ha b hb e => by simp at hb; subst hb; subst e; exact h2 ha⟩
    · rintro ⟨h1, _, h3⟩
      exact ⟨h1, fun h => h3 _ h _ (by simp) rfl⟩
theorem nodup_iff {xs : List Int} : allN (fun i => !has (xs.take i) (ix xs i)) xs.length = true ↔ xs.Nodup := by
  rw [nodup_to _ (Nat.le_refl _), List.take_length]

/-- the numbers below n but one -/
def othersN (n i : Nat) : List Int := ((List.range n).erase i).map fun (j : Nat) => (j : Int)
theorem othersN_mem {n i : Nat} {x : Int} : x ∈ othersN n i ↔ 0 ≤ x ∧ x < n ∧ x ≠ i := by
  unfold othersN
  rw [List.mem_map]
  constructor
  · rintro ⟨j, hj, rfl⟩
    have h1 := List.mem_of_mem_erase hj
    rw [List.mem_range] at h1
    have h2 : j ≠ i := fun e => by
      subst e
      exact (List.nodup_range.not_mem_erase) hj
    omega
  · rintro ⟨h1, h2, h3⟩
    exact ⟨x.toNat, (List.mem_erase_of_ne (by omega)).2 (by rw [List.mem_range]; omega), by omega⟩
theorem othersN_len {n i : Nat} (h : i < n) : (othersN n i).length = n - 1 := by
  unfold othersN
  rw [List.length_map, List.length_erase_of_mem (by simpa using h), List.length_range]
theorem othersN_nodup (n i : Nat) : (othersN n i).Nodup := by
  unfold othersN
  refine List.Pairwise.map _ (fun a b h e => h (by omega)) ((List.nodup_range).erase i)
end Go.Proofs.YtaanppihgldeaaaGreatDoor
