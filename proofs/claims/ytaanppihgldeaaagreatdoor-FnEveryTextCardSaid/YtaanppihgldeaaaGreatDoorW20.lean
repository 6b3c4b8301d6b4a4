/- The candidate that beats all others: Copeland, maximin, Schulze, Baldwin, pairs. Plain facts. No program is walked here. Elimination: the reference's way is the program's. Plain facts. No program is walked here. Eliminations and a majority: Baldwin, instant, plurality, runoff, Bucklin; Borda both ways round. Plain facts. No program is walked here. -/
import Derived.Test.YtaanppihgldeaaaGreatDoorW19
import Derived.Test.YtaanppihgldeaaaGreatDoorW10
import Derived.Test.YtaanppihgldeaaaGreatDoorW08
namespace Go.Proofs.YtaanppihgldeaaaGreatDoor
set_option linter.unusedSimpArgs false
set_option linter.unusedVariables false
set_option linter.unusedVariables false
open Go.RowKit

theorem pair_nn {m : Int} {vs : List Vt} (F : PF m vs) (a b : Int) : 0 ≤ pairP vs a b := (vts_bd F.c F.n).1
theorem pair_sum {m : Int} {vs : List Vt} (F : PF m vs) {a b : Int} (a0 : 0 ≤ a) (a1 : a < m) (b0 : 0 ≤ b) (b1 : b < m) (hab : a ≠ b) : pairP vs a b + pairP vs b a = votersP vs := by
  unfold pairP votersP
  rw [vts_wsm, vts_wsm, vts_wsm, ← wsm_add]
  refine wsm_congr fun v hv => ?_
  have R := rkF_of (F.r v hv)
  rw [pref_iff R a0 a1 b0 b1, pref_iff R b0 b1 a0 a1]
  have hne : place v.r a ≠ place v.r b := fun e => hab (R.inj a b a0 a1 e)
  rcases Int.lt_or_gt_of_ne hne with h | h
  · rw [decide_eq_true h, decide_eq_false (by omega)]; simp
  · rw [decide_eq_false (by omega), decide_eq_true h]; simp
theorem pair_self (vs : List Vt) (a : Int) : pairP vs a a = 0 := by
  unfold pairP
  rw [vts_wsm]
  refine (wsm_congr fun v _ => ?_).trans (wsm_zero vs)
  rw [prIrr]; simp
/-- a beats all others -/
structure Cond (m : Int) (vs : List Vt) (a : Int) : Prop where
  a0 : 0 ≤ a
  a1 : a < m
  beat : ∀ b : Int, 0 ≤ b → b < m → b ≠ a → pairP vs b a < pairP vs a b
theorem Cond.half {m : Int} {vs : List Vt} {a : Int} (C : Cond m vs a) (F : PF m vs) {b : Int} (b0 : 0 ≤ b) (b1 : b < m) (h : b ≠ a) : 2 * pairP vs b a < votersP vs ∧ votersP vs < 2 * pairP vs a b := by
  have h1 := C.beat b b0 b1 h
  have h2 := pair_sum F b0 b1 C.a0 C.a1 h
  omega
theorem Cond.pos {m : Int} {vs : List Vt} {a : Int} (C : Cond m vs a) {b : Int} (b0 : 0 ≤ b) (b1 : b < m) (h : b ≠ a) : beatsP vs a b = true ∧ beatsP vs b a = false := by
  have h1 := C.beat b b0 b1 h
  unfold beatsP marginP
  exact ⟨decide_eq_true (by omega), decide_eq_false (by omega)⟩
/-- the winner of a list of one greatest number -/
theorem win_list {rule m : Int} {vs : List Vt} {f : Nat → Int} {a : Nat} (hp : profOk m vs = true) (h1 : winnersP rule m vs = greatest (lfn f m.toNat)) (ha : (a : Int) < m) (hm : ∀ i : Nat, (i : Int) < m → i ≠ a → f i < f a) : winnerR rule m vs = (a : Int) := by
  have T : Top (lfn f m.toNat) a := ⟨by rw [lfn_len]; omega, fun i hi => by
      rw [lfn_len] at hi
      rw [lfn_ix hi, lfn_ix (by omega)]
      by_cases e : i = a
      · subst e; exact Int.le_refl _
      · exact Int.le_of_lt (hm i (by omega) e), fun i hi => by
      rw [lfn_ix (by omega), lfn_ix (by omega)]
      exact hm i (by omega) (by omega)⟩
  rw [winner_of hp h1 (greatest_pos (by have := T.lt; omega)), top_is T]
theorem sumN_point (s : Nat) (c d : Int) : ∀ k : Nat, sumN (fun b => if b = s then c else d) k = d * k + (if s < k then c - d else 0)
  | 0 => by simp [sumN]
  | k + 1 => by
    rw [sumN, sumN_point s c d k, Int.natCast_add, Int.mul_add]
    by_cases h1 : k = s
    · subst h1
      rw [if_neg (by omega), if_pos rfl, if_pos (by omega)]; simp; omega
    · rw [if_neg h1]
      by_cases h2 : s < k
      · rw [if_pos h2, if_pos (by omega)]; simp; omega
      · rw [if_neg h2, if_neg (by omega)]; simp
theorem cond_cop {m : Int} {vs : List Vt} {a : Int} (hp : profOk m vs = true) (C : Cond m vs a) : winnerR 4 m vs = a := by
  have F := pf_of hp
  obtain ⟨A, rfl⟩ : ∃ A : Nat, a = (A : Int) := ⟨a.toNat, by have := C.a0; omega⟩
  have hA := C.a1
  refine win_list hp (win4 hp) hA fun i hi hia => ?_
  have h1 : sumN (fun b => if b = A then 0 else 1) m.toNat ≤ sumN (copF vs A) m.toNat := sumN_le fun b hb => by
    unfold copF
    by_cases e : b = A
    · subst e; rw [if_pos rfl]; unfold marginP; rw [Int.sub_self]; simp [cmpI]
    · rw [if_neg e]
      have := C.beat (b : Int) (by omega) (by omega) (by omega)
      rw [cmpI_pos (by unfold marginP; omega)]; exact Int.le_refl _
  have h2 : sumN (copF vs i) m.toNat ≤ sumN (fun b => if b = A then -1 else 1) m.toNat := sumN_le fun b hb => by
    unfold copF
    by_cases e : b = A
    · subst e
      rw [if_pos rfl]
      have := C.beat (i : Int) (by omega) (by omega) (by omega)
      unfold marginP cmpI
      rw [if_pos (by omega)]; exact Int.le_refl _
    · rw [if_neg e]; exact (cmpI_bd _ _).2
  rw [sumN_point, if_pos (by omega)] at h1 h2
  omega
theorem minN_gt {f : Nat → Int} {s : Nat} {init n : Int} (h0 : n < 2 * init) : ∀ {k : Nat}, (∀ i, i < k → i ≠ s → n < 2 * f i) → n < 2 * minN f s init k
  | 0, _ => h0
  | k + 1, h => by
    have h1 := minN_gt (s := s) h0 (k := k) fun i hi => h i (by omega)
    rw [minN]
    by_cases e : k = s
    · rw [if_pos e]; exact h1
    · have h2 := h k (by omega) e
      rw [if_neg e]; omega
theorem minN_ub {f : Nat → Int} {s : Nat} {init : Int} {j : Nat} (hj : j ≠ s) : ∀ {k : Nat}, j < k → minN f s init k ≤ f j
  | 0, h => absurd h (by omega)
  | k + 1, h => by
    rw [minN]
    by_cases e : k = s
    · rw [if_pos e]; exact minN_ub hj (by omega)
    · rw [if_neg e]
      by_cases e2 : j = k
      · subst e2; omega
      · have := minN_ub (f := f) (init := init) hj (k := k) (by omega)
        omega
theorem cond_max {m : Int} {vs : List Vt} {a : Int} (hp : profOk m vs = true) (C : Cond m vs a) : winnerR 5 m vs = a := by
  have F := pf_of hp
  obtain ⟨A, rfl⟩ : ∃ A : Nat, a = (A : Int) := ⟨a.toNat, by have := C.a0; omega⟩
  have hA := C.a1
  refine win_list hp (win5 hp) hA fun i hi hia => ?_
  have hh := C.half F (b := (i : Int)) (by omega) (by omega) (by omega)
  have hn := pair_nn F (i : Int) (A : Int)
  have h1 : votersP vs < 2 * minN (maxmF vs A) A (votersP vs) m.toNat := minN_gt (by omega) fun b hb hba => (C.half F (b := (b : Int)) (by omega) (by omega) (by omega)).2
  have h2 : minN (maxmF vs i) i (votersP vs) m.toNat ≤ maxmF vs i A := minN_ub (fun e => hia e.symm) (by omega)
  have h3 : maxmF vs i A = pairP vs (i : Int) (A : Int) := rfl
  omega
/-- no way leads into a; from a one leads to all -/
def StrF (M A : Nat) (f : Nat → Nat → Int) : Prop := (∀ x, x ≠ A → f x A ≤ 0) ∧ ∀ x, x < M → x ≠ A → 0 < f A x
theorem StrF.step {M A : Nat} {f : Nat → Nat → Int} (h : StrF M A f) (o a b : Nat) : StrF M A (fwStep f o a b) := by
  unfold fwStep
  by_cases hab : a = b
  · rw [if_pos hab]; exact h
  · rw [if_neg hab]
    refine ⟨fun x hx => ?_, fun x hx hxa => ?_⟩
    · unfold upd2
      by_cases e1 : x = a
      · subst e1
        rw [if_pos rfl]
        by_cases e2 : A = b
        · subst e2
          rw [if_pos rfl]
          have h1 := h.1 x hx
          by_cases e3 : o = A
          · subst e3; omega
          · have := h.1 o e3; omega
        · rw [if_neg e2]; exact h.1 x hx
      · rw [if_neg e1]; exact h.1 x hx
    · unfold upd2
      have h1 := h.2 x hx hxa
      split
      · subst_vars
        split
        · subst_vars; omega
        · exact h1
      · exact h1
theorem StrF.rowB {M A : Nat} {f : Nat → Nat → Int} (h : StrF M A f) (o a : Nat) : ∀ b, StrF M A (fwB f o a b)
  | 0 => h
  | b + 1 => (h.rowB o a b).step o a b
theorem StrF.rowA {M A : Nat} {f : Nat → Nat → Int} (h : StrF M A f) (N o : Nat) : ∀ a, StrF M A (fwA f N o a)
  | 0 => h
  | a + 1 => (h.rowA N o a).rowB o a N
theorem StrF.all {M A : Nat} {f : Nat → Nat → Int} (h : StrF M A f) (N : Nat) : ∀ o, StrF M A (fwO f N o)
  | 0 => h
  | o + 1 => (h.all N o).rowA N o N
theorem win11 {m : Int} {vs : List Vt} : winnersP 11 m vs = schulzeR m vs := by
  unfold winnersP
  simp only [Int.reduceEq, if_true, if_false]
theorem cond_schulze {m : Int} {vs : List Vt} {a : Int} (hp : profOk m vs = true) (C : Cond m vs a) : winnerR 11 m vs = a := by
  have F := pf_of hp
  obtain ⟨A, rfl⟩ : ∃ A : Nat, a = (A : Int) := ⟨a.toNat, by have := C.a0; omega⟩
  obtain ⟨M, rfl⟩ : ∃ M : Nat, m = (M : Int) := ⟨m.toNat, by have := F.m1; omega⟩
  have hA := C.a1
  have h0 : StrF M A (strI vs) := ⟨fun x hx => by
      unfold strI
      split
      · rename_i hb
        unfold beatsP at hb
        rw [decide_eq_true_eq] at hb
        by_cases hxM : x < M
        · have := C.beat (x : Int) (by omega) (by omega) (by omega)
          unfold marginP at hb
          omega
        · exfalso
          unfold marginP at hb
          have hz : pairP vs (x : Int) (A : Int) = 0 := by
            unfold pairP
            rw [vts_wsm]
            refine (wsm_congr fun v hv => ?_).trans (wsm_zero vs)
            have R := rkF_of (F.r v hv)
            have hx' : ¬ 0 ≤ place v.r (x : Int) := fun h => by
              have := R.bd _ (place_mem.1 h)
              omega
            unfold pref
            rw [decide_eq_false hx']; simp
          have := pair_nn F (A : Int) (x : Int)
          omega
      · exact Int.le_refl _, fun x hx hxa => by
      unfold strI
      have hb := C.pos (b := (x : Int)) (by omega) (by omega) (by omega)
      rw [if_pos hb.1]
      have := C.beat (x : Int) (by omega) (by omega) (by omega)
      have := pair_nn F (x : Int) (A : Int)
      omega⟩
  have hs : StrF M A (strength vs M) := h0.all M M
  have hone : ∀ x ∈ schulzeR (M : Int) vs, x = (A : Int) := by
    unfold schulzeR thoseR thoseP
    rw [hp, if_pos rfl, Int.toNat_natCast]
    intro x hx
    obtain ⟨j, hj, rfl, hh⟩ := thoseTo_mem.1 hx
    by_cases e : j = A
    · rw [e]
    · exfalso
      have h1 := hh A (by omega)
      have h2 := hs.1 j e
      have h3 := hs.2 j hj e
      unfold schulF at h1
      rw [Bool.or_eq_true, beq_iff_eq, decide_eq_true_eq] at h1
      simp only [Int.toNat_natCast] at h1
      omega
  have hpos := (schulze_some hp).1
  rw [winner_of hp win11 hpos]
  exact hone _ (ix_mem hpos)
theorem win12 {m : Int} {vs : List Vt} : winnersP 12 m vs = [ix (pairsRank m vs) 0] := by
  unfold winnersP
  simp only [Int.reduceEq, if_true, if_false]
theorem reach_none {rows : List (List Int)} {a y : Int} (hr : ∀ r ∈ rows, ix r 1 ≠ a) (h : Reach rows a y) : y = a := by
  induction h with
  | refl => rfl
  | step hm _ ih => exact absurd ih (hr _ hm)
theorem pairG_ix (a b : Nat) : ix (pairG a b) 0 = (a : Int) ∧ ix (pairG a b) 1 = (b : Int) := ⟨rfl, rfl⟩
theorem coll_has {f : Nat → Bool} {g : Nat → List Int} {j : Nat} (hf : f j = true) : ∀ {k : Nat}, j < k → g j ∈ coll f g k
  | 0, h => absurd h (by omega)
  | k + 1, h => by
    by_cases e : j = k
    · subst e; rw [coll_yes hf]; simp
    · have := coll_has (g := g) hf (k := k) (by omega)
      cases hk : f k
      · rw [coll_no hk]; exact this
      · rw [coll_yes hk, List.mem_append]; exact .inl this
theorem collTo_has {f : Nat → Nat → Bool} {g : Nat → Nat → List Int} {n a b : Nat} (hf : f a b = true) (hb : b < n) : ∀ {i : Nat}, a < i → g a b ∈ collTo f g n i
  | 0, h => absurd h (by omega)
  | i + 1, h => by
    rw [collTo, List.mem_append]
    by_cases e : a = i
    · subst e; exact .inr (coll_has hf hb)
    · exact .inl (collTo_has hf hb (by omega))
theorem sortedR_has {kf : List Int → Int} {rows : List (List Int)} {r : List Int} (h : r ∈ rows) : r ∈ sortedR kf rows := by
  unfold sortedR
  have hp := sortK_all (fun p => kf p.2) (zr rows)
  rw [zr_len] at hp
  have : r ∈ (zr rows).map Prod.snd := by rw [zr_snd]; exact h
  exact (hp.map Prod.snd).mem_iff.2 this
theorem lockR_has {ys : List (List Int)} {a : Int} (hr : ∀ r ∈ ys, ix r 1 ≠ a) {r : List Int} {i : Nat} (hi : i < ys.length) (e : rx ys i = r) (h0 : ix r 0 = a) : ∀ {k : Nat}, i < k → k ≤ ys.length → r ∈ lockR ys k
  | 0, h, _ => absurd h (by omega)
  | k + 1, h, hk => by
    rw [lockR]
    by_cases ek : i = k
    · subst ek
      rw [if_neg ?_]
      · rw [e]; simp
      · intro hl
        rw [e, h0] at hl
        have := reach_none (fun r hr' => hr r (lockR_mem (by omega) r hr')) (leadC_iff.1 hl)
        exact hr r (by rw [← e]; exact rx_mem hi) this
    · have := lockR_has hr hi e h0 (k := k) (by omega) (by omega)
      split
      · exact this
      · rw [List.mem_append]; exact .inl this
theorem prk_head (kept : List (List Int)) {n : Nat} (hn : 0 < n) (left : List Int) : ix (prk kept n left) 0 = ix left (freeAt kept left) := by
  cases n with
  | zero => omega
  | succ n => rfl
theorem cond_pairs {m : Int} {vs : List Vt} {a : Int} (hp : profOk m vs = true) (C : Cond m vs a) : winnerR 12 m vs = a := by
  have F := pf_of hp
  obtain ⟨A, rfl⟩ : ∃ A : Nat, a = (A : Int) := ⟨a.toNat, by have := C.a0; omega⟩
  obtain ⟨M, rfl⟩ : ∃ M : Nat, m = (M : Int) := ⟨m.toNat, by have := F.m1; omega⟩
  have hA := C.a1
  rw [winner_of hp win12 (by simp)]
  show ix (pairsRank (M : Int) vs) 0 = (A : Int)
  have hup : 0 < (upE M).length := by rw [upE_len]; omega
  obtain ⟨_, f1, _, f2⟩ := freeAt_ok (left := upE M) (lockedP_acyc vs M) hup
  have e0 : ix (pairsRank (M : Int) vs) 0 = ix (upE M) (freeAt (lockedP vs M) (upE M)) := by
    unfold pairsRank
    rw [Int.toNat_natCast]
    exact prk_head _ (by omega) _
  rw [e0]
  obtain ⟨j, hj, ej⟩ := upE_mem (ix_mem f1)
  rw [ej] at f2 ⊢
  by_cases e : j = A
  · rw [e]
  · exfalso
    have hno : ∀ r ∈ sortedR (keyR vs) (pairsOf vs M), ix r 1 ≠ (A : Int) := fun r hr e1 => by
      obtain ⟨x, y, hx, hy, hb, rfl⟩ := collTo_mem (sortedR_mem hr)
      rw [(pairG_ix x y).2] at e1
      have hy' : y = A := by omega
      subst hy'
      by_cases hxA : x = y
      · subst hxA
        unfold beatsP marginP at hb
        rw [decide_eq_true_eq] at hb
        omega
      · have := (C.pos (b := (x : Int)) (by omega) (by omega) (by omega)).2
        rw [this] at hb
        cases hb
    have hin : pairG A j ∈ sortedR (keyR vs) (pairsOf vs M) := sortedR_has (collTo_has (f := fun a b => beatsP vs (a : Int) (b : Int)) (C.pos (b := (j : Int)) (by omega) (by omega) (by omega)).1 hj (by omega))
    obtain ⟨i, hi, ei⟩ := List.getElem_of_mem hin
    have hl : pairG A j ∈ lockedP vs M := lockR_has hno hi (by rw [rx_lt hi]; exact ei) rfl hi (Nat.le_refl _)
    unfold freeB at f2
    rw [Bool.not_eq_true', List.any_eq_false] at f2
    have := f2 _ hl
    rw [(pairG_ix A j).1, (pairG_ix A j).2] at this
    have hAm : has (upE M) (A : Int) = true := by
      rw [has_iff]
      unfold upE
      exact List.mem_map.2 ⟨A, by simp; omega, rfl⟩
    rw [hAm] at this
    simp at this
end Go.Proofs.YtaanppihgldeaaaGreatDoor
namespace Go.Proofs.YtaanppihgldeaaaGreatDoor
set_option linter.unusedSimpArgs false
set_option linter.unusedVariables false
set_option linter.unusedVariables false
open Go.RowKit

def okO (M : Nat) (out : List Int) (a : Int) (last : Bool) (r : List Int) : Bool := allN (fun b => ((b : Int) == a || has out (b : Int)) || (pref r a (b : Int) != last)) M
def numO (vs : List Vt) (M : Nat) (out : List Int) (a : Int) (last : Bool) : Int := vts (okO M out a last) vs
def sumO (vs : List Vt) (out : List Int) (a : Int) : Nat → Int
  | 0 => 0
  | b + 1 => sumO vs out a b + (if (b : Int) != a && !has out (b : Int) then pairP vs a (b : Int) else 0)
def badK (vs : List Vt) (M : Nat) (kind : Int) (out : List Int) (a : Int) : Int := if kind = 0 then numO vs M out a false else if kind = 1 then -numO vs M out a true else sumO vs out a M
/-- the worst of the first a candidates that are not out, or -1 -/
def worstO (bf : List Int → Int → Int) (out : List Int) : Nat → Int
  | 0 => -1
  | a + 1 => if !has out (a : Int) && (decide (worstO bf out a < 0) || decide (bf out (a : Int) ≤ bf out (worstO bf out a))) then (a : Int) else worstO bf out a
def ordF (bf : List Int → Int → Int) (M : Nat) : Nat → List Int → List Int
  | 0, out => out
  | k + 1, out => ordF bf M k (out ++ [worstO bf out M])
theorem ordF_len (bf : List Int → Int → Int) (M : Nat) : ∀ k out, (ordF bf M k out).length = out.length + k
  | 0, _ => rfl
  | k + 1, out => by rw [ordF, ordF_len bf M k]; simp; omega
theorem worstO_bd (bf : List Int → Int → Int) (out : List Int) : ∀ a : Nat, -1 ≤ worstO bf out a ∧ worstO bf out a < a
  | 0 => by simp [worstO]
  | a + 1 => by have := worstO_bd bf out a; rw [worstO]; split <;> omega
/-- the last one with the least worth -/
def scan (g : Int → Int) (l : List Int) : Option Int := l.foldl (fun o x => match o with | none => some x | some w => if g x ≤ g w then some x else some w) none
theorem scan_add (g : Int → Int) (l : List Int) (x : Int) : scan g (l ++ [x]) = match scan g l with | none => some x | some w => if g x ≤ g w then some x else some w := by
  unfold scan; rw [List.foldl_append]; rfl
theorem scan_worst (g : Int → Int) (left : List Int) : ∀ k, k + 1 ≤ left.length → scan g (left.take (k + 1)) = some (ix left (worstTo g left (k + 1)))
  | 0, h => by
    rw [take_ix (by omega), worstTo, worstTo]
    have e : scan g (left.take 0 ++ [ix left 0]) = some (ix left 0) := by rw [scan_add]; rfl
    rw [e]; split <;> rfl
  | k + 1, h => by
    rw [take_ix (by omega), scan_add, scan_worst g left k (by omega)]
    rw [show worstTo g left (k + 1 + 1) = if g (ix left (k + 1)) ≤ g (ix left (worstTo g left (k + 1))) then k + 1 else worstTo g left (k + 1) from rfl]
    simp only
    split <;> rfl
def leftO (M : Nat) (out : List Int) : List Int := (upE M).filter fun x => !has out x
theorem upE_succ (k : Nat) : upE (k + 1) = upE k ++ [(k : Int)] := by unfold upE; rw [List.range_succ, List.map_append]; rfl
theorem leftO_succ (k : Nat) (out : List Int) : leftO (k + 1) out = leftO k out ++ (if has out (k : Int) then [] else [(k : Int)]) := by
  unfold leftO
  rw [upE_succ, List.filter_append]
  congr 1
  cases h : has out (k : Int) <;> simp [h]
def encO : Option Int → Int
  | none => -1
  | some w => w
theorem rev_ind {α : Type} {P : List α → Prop} (h0 : P []) (h1 : ∀ l x, P l → P (l ++ [x])) (l : List α) : P l := by
  have key : ∀ m : List α, P m.reverse := by
    intro m
    induction m with
    | nil => exact h0
    | cons x m ih => rw [List.reverse_cons]; exact h1 _ _ ih
  have := key l.reverse
  rwa [List.reverse_reverse] at this
theorem scan_none (g : Int → Int) : ∀ l : List Int, scan g l = none → l = [] := by
  refine rev_ind (fun _ => rfl) fun l x _ h => ?_
  rw [scan_add] at h
  split at h
  · cases h
  · split at h <;> cases h
theorem scan_mem (g : Int → Int) (l : List Int) : ∀ w, scan g l = some w → w ∈ l := by
  revert l
  refine rev_ind (fun w h => by cases h) fun l x ih w h => ?_
  rw [scan_add] at h
  split at h
  · cases h; simp
  · rename_i w' hw
    split at h
    · cases h; simp
    · cases h
      exact List.mem_append_left _ (ih _ hw)
theorem leftO_mem {M : Nat} {out : List Int} {x : Int} (h : x ∈ leftO M out) : (0 ≤ x ∧ x < M) ∧ x ∉ out := by
  unfold leftO at h
  rw [List.mem_filter] at h
  obtain ⟨j, hj, rfl⟩ := upE_mem h.1
  refine ⟨by omega, ?_⟩
  have := h.2
  rw [Bool.not_eq_true', has_not] at this
  exact this
theorem leftO_in {M : Nat} {out : List Int} {x : Int} (h0 : 0 ≤ x) (h1 : x < M) (h2 : x ∉ out) : x ∈ leftO M out := by
  unfold leftO
  rw [List.mem_filter, Bool.not_eq_true', has_not]
  refine ⟨?_, h2⟩
  unfold upE
  exact List.mem_map.2 ⟨x.toNat, List.mem_range.2 (by omega), by omega⟩
theorem worstO_scan {bf : List Int → Int → Int} {out : List Int} : ∀ k, worstO bf out k = encO (scan (bf out) (leftO k out))
  | 0 => rfl
  | k + 1 => by
    have ih := worstO_scan (bf := bf) (out := out) k
    rw [worstO, leftO_succ]
    cases hh : has out (k : Int)
    · rw [if_neg (by simp : ¬ (false = true)), scan_add]
      cases hs : scan (bf out) (leftO k out) with
      | none =>
        rw [hs] at ih
        rw [ih]; rfl
      | some w =>
        rw [hs] at ih
        have hw := (leftO_mem (scan_mem _ _ _ hs)).1
        have e : worstO bf out k = w := ih
        rw [e]
        simp only [Bool.not_false, Bool.true_and]
        rw [decide_eq_false (show ¬ w < 0 by omega), Bool.false_or]
        by_cases hle : bf out (k : Int) ≤ bf out w
        · rw [decide_eq_true hle, if_pos rfl, if_pos hle]; rfl
        · rw [decide_eq_false hle, if_neg (by simp), if_neg hle]; rfl
    · rw [if_pos rfl, List.append_nil, ← ih]; simp
theorem scan_congr {g g' : Int → Int} (l : List Int) (h : ∀ x ∈ l, g x = g' x) : scan g l = scan g' l := by
  revert l
  refine rev_ind (fun _ => rfl) fun l x ih h => ?_
  have ih' := ih fun y hy => h y (List.mem_append_left _ hy)
  rw [scan_add, scan_add, ← ih']
  cases hs : scan g l with
  | none => rfl
  | some w =>
    have h1 := h x (by simp)
    have h2 := h w (List.mem_append_left _ (scan_mem _ _ _ hs))
    simp only [h1, h2]
theorem upE_nodup (M : Nat) : (upE M).Nodup := by
  unfold upE
  rw [List.nodup_iff_pairwise_ne, List.pairwise_map]
  exact (List.nodup_iff_pairwise_ne.1 List.nodup_range).imp fun h e => h (by omega)
theorem leftO_nodup (M : Nat) (out : List Int) : (leftO M out).Nodup := (upE_nodup M).filter _
theorem erase_filter {l : List Int} (hn : l.Nodup) {i : Nat} (hi : i < l.length) : l.eraseIdx i = l.filter fun x => x != ix l i := by
  induction l generalizing i with
  | nil => simp at hi
  | cons y l ih =>
    rw [List.nodup_cons] at hn
    cases i with
    | zero =>
      have e : ix (y :: l) 0 = y := rfl
      rw [e, List.eraseIdx_zero, List.tail_cons, List.filter_cons, if_neg (by simp)]
      exact (List.filter_eq_self.2 fun x hx => by rw [bne_iff_ne]; rintro rfl; exact hn.1 hx).symm
    | succ i =>
      have hi' : i < l.length := by simpa using hi
      have e : ix (y :: l) (i + 1) = ix l i := rfl
      rw [e, List.eraseIdx_cons_succ, List.filter_cons, if_pos (by rw [bne_iff_ne]; rintro rfl; exact hn.1 (ix_mem hi')), ih hn.2 hi']
theorem leftO_next {M : Nat} {out : List Int} {i : Nat} (hi : i < (leftO M out).length) : (leftO M out).eraseIdx i = leftO M (out ++ [ix (leftO M out) i]) := by
  rw [erase_filter (leftO_nodup M out) hi]
  generalize ix (leftO M out) i = w
  unfold leftO
  rw [List.filter_filter]
  refine List.filter_congr fun x _ => ?_
  rw [Bool.eq_iff_iff, Bool.and_eq_true, bne_iff_ne, Bool.not_eq_true', Bool.not_eq_true', has_not, has_not, List.mem_append, List.mem_singleton]
  constructor
  · rintro ⟨h1, h2⟩ (h | h)
    · exact h2 h
    · exact h1 h
  · intro h
    exact ⟨fun e => h (.inr e), fun e => h (.inl e)⟩
/-- the reference's order is the program's -/
theorem ordF_elim {bf wf : List Int → Int → Int} {M : Nat} (hbw : ∀ out, ∀ x ∈ leftO M out, wf (leftO M out) x = bf out x) : ∀ k out, (leftO M out).length = k → ordF bf M k out = out ++ elim wf k (leftO M out)
  | 0, out, _ => by rw [ordF, elim, List.append_nil]
  | k + 1, out, hl => by
    have h1 := scan_worst (wf (leftO M out)) (leftO M out) k (by omega)
    rw [← hl, List.take_length] at h1
    have h2 : scan (bf out) (leftO M out) = some (ix (leftO M out) (worst wf (leftO M out))) := by
      rw [← scan_congr _ (fun x hx => hbw out x hx)]; exact h1
    have h3 : worstO bf out M = ix (leftO M out) (worst wf (leftO M out)) := by rw [worstO_scan, h2]; rfl
    have hw : worst wf (leftO M out) < (leftO M out).length := worstTo_lt _ _ _ (by omega)
    have hn := leftO_next hw
    have hl2 : (leftO M (out ++ [worstO bf out M])).length = k := by rw [h3, ← hn, List.length_eraseIdx, if_pos hw]; omega
    rw [ordF, ordF_elim hbw k _ hl2, elim, h3, hn, List.append_assoc]; rfl
theorem leftO_nil (M : Nat) : leftO M [] = upE M := by
  unfold leftO
  exact List.filter_eq_self.2 fun x _ => by rw [Bool.not_eq_true', has_not]; simp
theorem worstO_pos {bf : List Int → Int → Int} {M : Nat} {out : List Int} (h : 0 < (leftO M out).length) : 0 ≤ worstO bf out M ∧ worstO bf out M ∉ out := by
  rw [worstO_scan]
  cases hs : scan (bf out) (leftO M out) with
  | none => rw [scan_none _ _ hs] at h; simp at h
  | some w =>
    have := leftO_mem (scan_mem _ _ _ hs)
    exact ⟨this.1.1, this.2⟩
end Go.Proofs.YtaanppihgldeaaaGreatDoor
namespace Go.Proofs.YtaanppihgldeaaaGreatDoor
set_option linter.unusedSimpArgs false
set_option linter.unusedVariables false
set_option linter.unusedVariables false
open Go.RowKit

def isum (g : Int → Int) : List Int → Int
  | [] => 0
  | x :: l => g x + isum g l
theorem isum_app (g : Int → Int) : ∀ l l' : List Int, isum g (l ++ l') = isum g l + isum g l'
  | [], l' => by simp [isum]
  | v :: l, l' => by rw [List.cons_append, isum, isum, isum_app g l l']; omega
theorem isum_le {g h : Int → Int} : ∀ {l : List Int}, (∀ v ∈ l, g v ≤ h v) → isum g l ≤ isum h l
  | [], _ => Int.le_refl _
  | v :: l, H => by
    have h1 := H v (List.mem_cons_self ..)
    have h2 := isum_le (l := l) fun x hx => H x (List.mem_cons_of_mem _ hx)
    rw [isum, isum]; omega
theorem isum_congr {g h : Int → Int} {l : List Int} (H : ∀ v ∈ l, g v = h v) : isum g l = isum h l :=
  Int.le_antisymm (isum_le fun v hv => Int.le_of_eq (H v hv)) (isum_le fun v hv => Int.le_of_eq (H v hv).symm)
theorem isum_add (g h : Int → Int) : ∀ l : List Int, isum (fun v => g v + h v) l = isum g l + isum h l
  | [] => rfl
  | v :: l => by rw [isum, isum, isum, isum_add g h l]; omega
theorem isum_const (c : Int) : ∀ l : List Int, isum (fun _ => c) l = c * l.length
  | [] => by simp [isum]
  | v :: l => by rw [isum, isum_const c l, List.length_cons, Int.natCast_add, Int.mul_add]; simp; omega
theorem isum_but (a c d : Int) : ∀ l : List Int, l.Nodup → isum (fun b => if b = a then d else c) l = c * l.length + (if a ∈ l then d - c else 0)
  | [], _ => by simp [isum]
  | x :: l, hn => by
    rw [List.nodup_cons] at hn
    rw [isum, isum_but a c d l hn.2, List.length_cons, Int.natCast_add, Int.mul_add]
    by_cases e : x = a
    · subst e
      rw [if_pos rfl, if_neg hn.1, if_pos (List.mem_cons_self ..)]; simp; omega
    · rw [if_neg e]
      by_cases h2 : a ∈ l
      · rw [if_pos h2, if_pos (List.mem_cons_of_mem _ h2)]; simp; omega
      · rw [if_neg h2, if_neg (fun h => (List.mem_cons.1 h).elim (fun h => e h.symm) h2)]; simp; omega
theorem isum_anti (g : Int → Int → Int) (hg : ∀ x y, g x y = - g y x) : ∀ l : List Int, isum (fun x => isum (g x) l) l = 0
  | [] => rfl
  | z :: l => by
    have ih := isum_anti g hg l
    have e1 : isum (fun x => isum (g x) (z :: l)) l = isum (fun x => g x z) l + isum (fun x => isum (g x) l) l := by
      rw [← isum_add]
      rfl
    have e2 : isum (fun x => g x z) l + isum (g z) l = 0 := by
      rw [← isum_add]
      refine (isum_congr (h := fun _ => 0) fun x _ => ?_).trans (by rw [isum_const]; simp)
      have := hg x z; omega
    have e3 := hg z z
    show isum (g z) (z :: l) + isum (fun x => isum (g x) (z :: l)) l = 0
    rw [e1, ih, isum]
    omega
theorem pairN_sum (vs : List Vt) (a : Int) (left : List Int) : ∀ k, k ≤ left.length → pairN vs a left k = isum (pairP vs a) (left.take k)
  | 0, _ => rfl
  | k + 1, h => by
    rw [pairN, pairN_sum vs a left k (by omega), take_ix (by omega), isum_app]
    simp [isum]
theorem bald_sum (vs : List Vt) (left : List Int) (a : Int) : baldN vs left a = isum (pairP vs a) left := by
  unfold baldN
  rw [pairN_sum vs a left _ (Nat.le_refl _), List.take_length]
theorem worst_min (f : Int → Int) (left : List Int) : ∀ k i, i < k → f (ix left (worstTo f left k)) ≤ f (ix left i)
  | 0, i, h => absurd h (by omega)
  | k + 1, i, h => by
    rw [worstTo]
    have ih := worst_min f left k
    split
    · rename_i hle
      by_cases e : i = k
      · subst e; exact Int.le_refl _
      · have := ih i (by omega); omega
    · rename_i hle
      by_cases e : i = k
      · subst e; omega
      · exact ih i (by omega)
theorem lastI_cons (x : Int) {l : List Int} (h : l ≠ []) : lastI (x :: l) = lastI l := by
  have hl : 0 < l.length := List.length_pos_iff.2 h
  unfold lastI
  rw [if_neg (by simp), if_neg (by omega), List.length_cons, Nat.add_sub_cancel]
  obtain ⟨k, hk⟩ : ∃ k, l.length = k + 1 := ⟨l.length - 1, by omega⟩
  rw [hk, Nat.add_sub_cancel]
  rfl
theorem elim_last {wf : List Int → Int → Int} {m a : Int} (hw : ∀ left : List Int, left.Nodup → (∀ x ∈ left, 0 ≤ x ∧ x < m) → a ∈ left → 2 ≤ left.length → ∃ x ∈ left, wf left x < wf left a) :
    ∀ k (left : List Int), left.length = k + 1 → left.Nodup → (∀ x ∈ left, 0 ≤ x ∧ x < m) → a ∈ left → lastI (elim wf (k + 1) left) = a
  | 0, left, hl, hn, hb, ha => by
    match left, hl with
    | [x], _ =>
      rw [List.mem_singleton] at ha
      subst ha
      have hw0 : worst wf [a] = 0 := by have := worstTo_lt (wf [a]) [a] 1 (by omega); unfold worst; simpa using this
      rw [elim, hw0]; rfl
  | k + 1, left, hl, hn, hb, ha => by
    have hne : ix left (worst wf left) ≠ a := fun e => by
      obtain ⟨x, hx, hlt⟩ := hw left hn hb ha (by omega)
      obtain ⟨i, hi, rfl⟩ := List.getElem_of_mem hx
      have := worst_min (wf left) left left.length i hi
      rw [← ix_lt hi] at hlt
      change wf left (ix left (worst wf left)) ≤ _ at this
      rw [e] at this
      omega
    have hwl : worst wf left < left.length := worstTo_lt _ _ _ (by omega)
    rw [elim, lastI_cons _ (by intro h; have := elim_len wf (k + 1) (left.eraseIdx (worst wf left)); rw [h] at this; simp at this)]
    refine elim_last hw k _ (by rw [List.length_eraseIdx, if_pos hwl]; omega) (hn.sublist (List.eraseIdx_sublist _ _)) (fun x hx => hb x (List.mem_of_mem_eraseIdx hx)) ?_
    rw [List.mem_eraseIdx_iff_getElem]
    obtain ⟨i, hi, e⟩ := List.getElem_of_mem ha
    refine ⟨i, hi, fun h => ?_, e⟩
    rw [← h] at hne
    exact hne (by rw [ix_lt hi]; exact e)
theorem elim_win {wf : List Int → Int → Int} {m a : Int} {vs : List Vt} (hp : profOk m vs = true) (a0 : 0 ≤ a) (a1 : a < m) (hw : ∀ left : List Int, left.Nodup → (∀ x ∈ left, 0 ≤ x ∧ x < m) → a ∈ left → 2 ≤ left.length → ∃ x ∈ left, wf left x < wf left a) :
    lastI (elimR wf m vs) = a := by
  have F := pf_of hp
  have h : elimR wf m vs = elim wf m.toNat (upE m.toNat) := by unfold elimR; rw [hp]; rfl
  rw [h]
  obtain ⟨k, hk⟩ : ∃ k, m.toNat = k + 1 := ⟨m.toNat - 1, by have := F.m1; omega⟩
  rw [hk]
  refine elim_last hw k (upE (k + 1)) (upE_len _) (upE_nodup _) (fun x hx => by have := upE_bd hx; omega) ?_
  unfold upE
  exact List.mem_map.2 ⟨a.toNat, by rw [List.mem_range]; omega, by omega⟩
theorem win9 {m : Int} {vs : List Vt} : winnersP 9 m vs = [lastI (elimR (baldN vs) m vs)] := by
  unfold winnersP
  simp only [Int.reduceEq, if_true, if_false]
theorem win7 {m : Int} {vs : List Vt} : winnersP 7 m vs = [lastI (elimR (instF vs) m vs)] := by
  unfold winnersP
  simp only [Int.reduceEq, if_true, if_false]
theorem two_of {l : List Int} (hn : l.Nodup) (h2 : 2 ≤ l.length) (a : Int) : ∃ b ∈ l, b ≠ a := by
  match l, h2, hn with
  | x :: y :: t, _, hn =>
    by_cases e : x = a
    · refine ⟨y, by simp, fun e2 => ?_⟩
      rw [List.nodup_cons] at hn
      exact hn.1 (by rw [e, ← e2]; simp)
    · exact ⟨x, by simp, e⟩
theorem cond_bald {m : Int} {vs : List Vt} {a : Int} (hp : profOk m vs = true) (C : Cond m vs a) : winnerR 9 m vs = a := by
  have F := pf_of hp
  rw [winner_of hp win9 (by simp)]
  show lastI _ = a
  refine elim_win hp C.a0 C.a1 fun left hn hb ha h2 => ?_
  have hanti := isum_anti (marginP vs) (fun x y => by unfold marginP; omega) left
  have hsum : ∀ x ∈ left, 2 * baldN vs left x = votersP vs * left.length - votersP vs + isum (marginP vs x) left := fun x hx => by
    have e1 : isum (fun b => if b = x then 0 else votersP vs) left + isum (marginP vs x) left = 2 * baldN vs left x := by
      rw [bald_sum, ← isum_add]
      have : ∀ l : List Int, 2 * isum (pairP vs x) l = isum (fun b => pairP vs x b + pairP vs x b) l := fun l => by rw [isum_add]; omega
      rw [this]
      refine isum_congr fun b hb' => ?_
      by_cases e : b = x
      · subst e
        rw [if_pos rfl]
        unfold marginP
        rw [pair_self]; rfl
      · rw [if_neg e]
        have := pair_sum F (hb x hx).1 (hb x hx).2 (hb b hb').1 (hb b hb').2 (Ne.symm e)
        unfold marginP; omega
    rw [isum_but _ _ _ _ hn, if_pos hx] at e1
    omega
  have hpos : 0 < isum (marginP vs a) left := by
    have h1 : isum (fun b => if b = a then 0 else 1) left ≤ isum (marginP vs a) left := isum_le fun b hb' => by
      by_cases e : b = a
      · subst e; rw [if_pos rfl]; unfold marginP; omega
      · rw [if_neg e]
        have := C.beat b (hb b hb').1 (hb b hb').2 e
        unfold marginP; omega
    rw [isum_but _ _ _ _ hn, if_pos ha] at h1
    omega
  by_cases hex : ∃ x ∈ left, isum (marginP vs x) left < isum (marginP vs a) left
  · obtain ⟨x, hx, hlt⟩ := hex
    refine ⟨x, hx, ?_⟩
    have h3 := hsum x hx
    have h4 := hsum a ha
    omega
  · exfalso
    have h5 : isum (fun _ => isum (marginP vs a) left) left ≤ isum (fun x => isum (marginP vs x) left) left := isum_le fun x hx => by
      apply Int.le_of_not_gt
      intro h
      exact hex ⟨x, hx, h⟩
    rw [hanti, isum_const] at h5
    have : 0 < isum (marginP vs a) left * left.length := Int.mul_pos hpos (by omega)
    omega
/-- the votes that put a first -/
def firsts (vs : List Vt) (a : Int) : Int := vts (fun r => decide (place r a = 0)) vs
/-- a is first of more than half -/
structure Maj (m : Int) (vs : List Vt) (a : Int) : Prop where
  a0 : 0 ≤ a
  a1 : a < m
  half : votersP vs < 2 * firsts vs a
theorem firsts_two {m : Int} {vs : List Vt} (F : PF m vs) {a b : Int} (a0 : 0 ≤ a) (a1 : a < m) (b0 : 0 ≤ b) (b1 : b < m) (h : a ≠ b) : firsts vs a + firsts vs b ≤ votersP vs := by
  unfold firsts votersP
  rw [vts_wsm, vts_wsm, vts_wsm, ← wsm_add]
  refine wsm_le fun v hv => ?_
  have R := rkF_of (F.r v hv)
  have hc := F.c v hv
  by_cases e1 : place v.r a = 0
  · have e2 : place v.r b ≠ 0 := fun e => h (R.inj a b a0 a1 (by omega))
    rw [decide_eq_true e1, decide_eq_false e2]; simp
  · rw [decide_eq_false e1]
    by_cases e2 : place v.r b = 0
    · rw [decide_eq_true e2]; simp
    · rw [decide_eq_false e2]; simp; omega
theorem Maj.cond {m : Int} {vs : List Vt} {a : Int} (M : Maj m vs a) (F : PF m vs) : Cond m vs a := by
  refine ⟨M.a0, M.a1, fun b b0 b1 h => ?_⟩
  have h1 := pair_sum F M.a0 M.a1 b0 b1 (Ne.symm h)
  have h2 : firsts vs a ≤ pairP vs a b := by
    unfold firsts pairP
    rw [vts_wsm, vts_wsm]
    refine wsm_le fun v hv => ?_
    have R := rkF_of (F.r v hv)
    have hc := F.c v hv
    rw [pref_iff R M.a0 M.a1 b0 b1]
    by_cases e1 : place v.r a = 0
    · have e2 : place v.r b ≠ place v.r a := fun e => h (R.inj b a b0 b1 e)
      have := (R.pl b b0 b1).1
      rw [decide_eq_true e1, decide_eq_true (by omega)]; simp
    · rw [decide_eq_false e1]
      simp only [Bool.false_eq_true, if_false]
      split <;> omega
  have := M.half
  omega
theorem plur_sco {m : Int} {vs : List Vt} (F : PF m vs) (i : Nat) (hi : (i : Int) < m) : sco (plurW m) vs i = firsts vs (i : Int) := by
  unfold sco firsts
  rw [vts_wsm]
  refine wsm_congr fun v hv => ?_
  have R := rkF_of (F.r v hv)
  have hp := R.pl (i : Int) (by omega) hi
  have m1 := F.m1
  have m5 := F.m5
  unfold plurW wtsOf
  rw [inB_15 m1 m5, if_pos rfl, mapTo_ix (by omega)]
  by_cases e : place v.r (i : Int) = 0
  · rw [show max 0 (1 - ((place v.r (i : Int)).toNat : Int)) = 1 by omega, decide_eq_true e]; simp
  · rw [decide_eq_false e, show max 0 (1 - ((place v.r (i : Int)).toNat : Int)) = 0 by omega]; simp
theorem maj_plur {m : Int} {vs : List Vt} {a : Int} (hp : profOk m vs = true) (M : Maj m vs a) : winnerR 1 m vs = a := by
  have F := pf_of hp
  obtain ⟨A, rfl⟩ : ∃ A : Nat, a = (A : Int) := ⟨a.toNat, by have := M.a0; omega⟩
  have hA := M.a1
  have hl : ∀ i : Nat, (i : Int) < m → i ≠ A → sco (plurW m) vs i < sco (plurW m) vs A := fun i hi h => by
    rw [plur_sco F i hi, plur_sco F A hA]
    have h1 := firsts_two F (a := (A : Int)) (b := (i : Int)) (by omega) hA (by omega) hi (by omega)
    have := M.half
    omega
  exact (scR1 F.m1 F.m5).is_win hp hA (fun i hi => by
    by_cases e : i = A
    · subst e; exact Int.le_refl _
    · exact Int.le_of_lt (hl i hi e)) fun i hi => hl i (by omega) (by omega)
theorem win6 {m : Int} {vs : List Vt} : winnersP 6 m vs = [runoffW m vs] := by
  unfold winnersP
  simp only [Int.reduceEq, if_true, if_false]
theorem maj_runoff {m : Int} {vs : List Vt} {a : Int} (hp : profOk m vs = true) (M : Maj m vs a) : winnerR 6 m vs = a := by
  have F := pf_of hp
  have C := M.cond F
  obtain ⟨A, rfl⟩ : ∃ A : Nat, a = (A : Int) := ⟨a.toNat, by have := M.a0; omega⟩
  have hA := M.a1
  have m1 := F.m1
  rw [winner_of hp win6 (by simp)]
  show runoffW m vs = (A : Int)
  unfold runoffW
  rw [hp, if_pos rfl]
  by_cases h1 : m = 1
  · rw [if_pos h1]; omega
  · rw [if_neg h1]
    have hfirst : ix (sortS (scores m vs (plurW m)) m.toNat) 0 = (A : Int) := by
      have hm : (A : Int) ∈ sortS (scores m vs (plurW m)) m.toNat := sortS_mem.2 ⟨by omega, by omega⟩
      obtain ⟨i, hi, e⟩ := List.getElem_of_mem hm
      rw [← ix_lt hi] at e
      rw [sortS_len] at hi
      by_cases e0 : i = 0
      · rw [← e0]; exact e
      · have hb := sortS_bef (rs := scores m vs (plurW m)) (k := m.toNat) (i := 0) (j := i) (by omega) hi
        rw [e] at hb
        have hz := sortS_at (rs := scores m vs (plurW m)) (k := m.toNat) (j := 0) (by omega)
        generalize ix (sortS (scores m vs (plurW m)) m.toNat) 0 = z at *
        by_cases ez : z = (A : Int)
        · exact ez
        · exfalso
          unfold bef rv at hb
          rw [scores_ix F _ (by omega), scores_ix F _ (by omega), plur_sco F _ (by omega), plur_sco F _ (by omega), Int.toNat_natCast, Int.toNat_of_nonneg hz.1] at hb
          have h3 := firsts_two F (a := (A : Int)) (b := z) (by omega) hA (by omega) (by omega) (Ne.symm ez)
          have := M.half
          omega
    rw [hfirst]
    have hy := sortS_at (rs := scores m vs (plurW m)) (k := m.toNat) (j := 1) (by omega)
    generalize ix (sortS (scores m vs (plurW m)) m.toNat) 1 = y at *
    by_cases ey : y = (A : Int)
    · subst ey; unfold roT; simp
    · have hb := C.pos (b := y) (by omega) (by omega) ey
      by_cases hlt : (A : Int) < y
      · rw [roT_lt hlt, hb.2]; rfl
      · rw [roT_ge hlt, hb.1]; rfl
theorem maj_inst {m : Int} {vs : List Vt} {a : Int} (hp : profOk m vs = true) (M : Maj m vs a) : winnerR 7 m vs = a := by
  have F := pf_of hp
  rw [winner_of hp win7 (by simp)]
  show lastI _ = a
  refine elim_win hp M.a0 M.a1 fun left hn hb ha h2 => ?_
  obtain ⟨x, hx, hxa⟩ := two_of hn h2 a
  refine ⟨x, hx, ?_⟩
  have hbx := hb x hx
  have h1 : firsts vs a ≤ instF vs left a := by
    unfold firsts instF firstN
    rw [vts_wsm, vts_wsm]
    refine wsm_le fun v hv => ?_
    have R := rkF_of (F.r v hv)
    have hc := F.c v hv
    by_cases e1 : place v.r a = 0
    · have : firstP left v.r a = true := by
        unfold firstP
        rw [Bool.not_eq_true', List.any_eq_false]
        intro b hb'
        rw [pref_iff R (hb b hb').1 (hb b hb').2 M.a0 M.a1]
        have := (R.pl b (hb b hb').1 (hb b hb').2).1
        simp; omega
      rw [decide_eq_true e1, this]; simp
    · rw [decide_eq_false e1]
      simp only [Bool.false_eq_true, if_false]
      split <;> omega
  have h3 : instF vs left x + instF vs left a ≤ votersP vs := by
    unfold instF firstN votersP
    rw [vts_wsm, vts_wsm, vts_wsm, ← wsm_add]
    refine wsm_le fun v hv => ?_
    have R := rkF_of (F.r v hv)
    have hc := F.c v hv
    have hno : ¬ (firstP left v.r x = true ∧ firstP left v.r a = true) := by
      rintro ⟨p1, p2⟩
      unfold firstP at p1 p2
      rw [Bool.not_eq_true', List.any_eq_false] at p1 p2
      have q1 := p1 a ha
      have q2 := p2 x hx
      rw [pref_iff R M.a0 M.a1 hbx.1 hbx.2, decide_eq_true_eq] at q1
      rw [pref_iff R hbx.1 hbx.2 M.a0 M.a1, decide_eq_true_eq] at q2
      exact hxa (R.inj x a hbx.1 hbx.2 (by omega))
    cases e1 : firstP left v.r x <;> cases e2 : firstP left v.r a
    · simp; omega
    · simp
    · simp
    · exact absurd ⟨e1, e2⟩ hno
  have := M.half
  omega
theorem win10 {m : Int} {vs : List Vt} : winnersP 10 m vs = [bucklinW m vs] := by
  unfold winnersP
  simp only [Int.reduceEq, if_true, if_false]
theorem maj_buck {m : Int} {vs : List Vt} {a : Int} (hp : profOk m vs = true) (M : Maj m vs a) : winnerR 10 m vs = a := by
  have F := pf_of hp
  obtain ⟨A, rfl⟩ : ∃ A : Nat, a = (A : Int) := ⟨a.toNat, by have := M.a0; omega⟩
  have hA := M.a1
  have m1 := F.m1
  have h0 : 0 ≤ votersP vs := (vts_bd F.c F.n).1
  have hlen : vs.length ≠ 0 := fun h => by
    have hv : vs = [] := List.eq_nil_of_length_eq_zero h
    have := M.half
    rw [hv] at this
    simp [firsts, votersP, vts, vtsTo] at this
  have hF : ∀ i : Nat, (i : Int) < m → amongF vs 1 i = firsts vs (i : Int) := fun i hi => by
    unfold amongF firsts
    rw [vts_wsm, vts_wsm]
    refine wsm_congr fun v hv => ?_
    have R := rkF_of (F.r v hv)
    have := (R.pl (i : Int) (by omega) hi).1
    have e : decide (place v.r (i : Int) < 1) = decide (place v.r (i : Int) = 0) := by rw [decide_eq_decide]; omega
    rw [e]
  have hlv : buckLevel m vs = 1 := by
    unfold buckLevel
    rw [hp, if_pos rfl, if_neg hlen, buckTo_end]
    · rfl
    · have h1 := lmax_up (xs := amongL m vs ((1 : Nat) : Int)) (j := A) (by rw [amongL_len]; omega)
      unfold amongL at h1 ⊢
      rw [lfn_ix (by omega)] at h1
      have h2 := hF A hA
      have := M.half
      have h3 : amongF vs ((1 : Nat) : Int) A = amongF vs 1 A := rfl
      omega
  rw [winner_of hp win10 (by simp)]
  show bucklinW m vs = (A : Int)
  unfold bucklinW
  rw [hlv, if_neg (by omega)]
  have hl : ∀ i : Nat, (i : Int) < m → i ≠ A → amongF vs 1 i < amongF vs 1 A := fun i hi h => by
    rw [hF i hi, hF A hA]
    have h1 := firsts_two F (a := (A : Int)) (b := (i : Int)) (by omega) hA (by omega) hi (by omega)
    have := M.half
    omega
  have T : Top (amongL m vs 1) A := ⟨by rw [amongL_len]; omega, fun i hi => by
      rw [amongL_len] at hi
      unfold amongL
      rw [lfn_ix hi, lfn_ix (by omega)]
      by_cases e : i = A
      · subst e; exact Int.le_refl _
      · exact Int.le_of_lt (hl i (by omega) e), fun i hi => by
      unfold amongL
      rw [lfn_ix (by omega), lfn_ix (by omega)]
      exact hl i (by omega) (by omega)⟩
  exact top_is T
end Go.Proofs.YtaanppihgldeaaaGreatDoor
