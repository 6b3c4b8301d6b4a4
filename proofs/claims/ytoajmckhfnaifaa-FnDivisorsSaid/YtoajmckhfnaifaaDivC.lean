/- How many lists of seats are fair: one, unless the last seat is tied. Plain lists: no program is walked here. -/
import Derived.Test.YtoajmckhfnaifaaDivF
import Derived.Test.YtoajmckhfnaifaaOdoL
namespace Go.Proofs.Ytoajmckhfnaifaa
set_option linter.unusedVariables false
open Go.RowKit

theorem asked_divX {m : Int} {xs : List Int} {k : Int} (h : seatsAskedB m xs k = true) : DivX m xs := by
  obtain ⟨m1, m5, k0, k1, n1, n6, hx⟩ := asked_facts h
  unfold seatsAskedB at h
  rw [Bool.and_eq_true] at h
  have hc := (quotaOk_facts h.2).1
  have hs := (countsOk_facts hc).2.2.2.1
  refine ⟨m1, m5, n1, fun i hi => (hx _ (ix_mem hi)).1, ?_⟩
  have hp := (lsum_pos (xs := xs) fun x hx' => (hx x hx').1).1 (by omega)
  obtain ⟨x, hxm, hx0⟩ := hp
  obtain ⟨i, hi, rfl⟩ := List.getElem_of_mem hxm
  exact ⟨i, hi, by rw [ix_lt hi]; exact hx0⟩
theorem ix_order {m : Int} {xs : List Int} : ∀ t j, j < t → ix (orderA m xs t) j = (bestA m xs j : Int)
  | 0, j, h => by omega
  | t + 1, j, h => by
    have hl := orderA_len m xs t
    rw [orderA, ix_lt (by simp [hl]; omega)]
    by_cases e : j < t
    · rw [List.getElem_append_left (by omega), ← ix_lt]
      exact ix_order t j e
    · have : j = t := by omega
      subst this
      rw [List.getElem_append_right (by omega)]
      simp
theorem cntTo_congr {n : Nat} {os os' : List Int} : ∀ j, (∀ i, i < j → ix os i = ix os' i) → cntTo n os j = cntTo n os' j
  | 0, _ => rfl
  | j + 1, h => by rw [cntTo, cntTo, cntTo_congr j fun i hi => h i (by omega), h j (by omega)]
theorem cnt_order {m : Int} {xs : List Int} : ∀ t, cntTo xs.length (orderA m xs t) t = seatsA m xs t
  | 0 => rfl
  | t + 1 => by
    rw [cntTo, cntTo_congr (os' := orderA m xs t) t fun i hi => by rw [ix_order _ _ (by omega), ix_order _ _ hi], cnt_order t, ix_order _ _ (by omega)]
    simp only [Int.toNat_natCast]
    rfl
theorem seatsBy_A {m : Int} {xs : List Int} {k : Int} (h : seatsAskedB m xs k = true) : seatsBy m xs k = seatsA m xs k.toNat := by
  rw [seatsBy_yes h, seatOrder_yes h, orderA_len, cnt_order]
theorem lsum_set' : ∀ {xs : List Int} {j : Nat} {v : Int}, j < xs.length → lsum (xs.set j v) = lsum xs + (v - ix xs j)
  | [], _, _, h => by simp at h
  | x :: xs, 0, v, _ => by simp only [List.set_cons_zero, lsum, ix, List.getD_cons_zero]; omega
  | x :: xs, j + 1, v, h => by
    have := lsum_set' (xs := xs) (j := j) (v := v) (by simpa using h)
    simp only [List.set_cons_succ, lsum, this]
    simp only [ix, List.getD_cons_succ]; omega
theorem seatsA_sum {m : Int} {xs : List Int} (D : DivX m xs) : ∀ t, lsum (seatsA m xs t) = t
  | 0 => by
    rw [seatsA]
    have : ∀ n : Nat, lsum (List.replicate n (0 : Int)) = 0 := fun n => by induction n with
      | zero => rfl
      | succ n ih => rw [List.replicate_succ]; simp only [lsum, ih]; rfl
    rw [this]; rfl
  | t + 1 => by
    rw [seatsA, lsum_set' (by rw [seatsA_len]; exact bestA_lt D t), seatsA_sum D t]; omega
theorem mem_upN {h : Nat} : ∀ {n : Nat} {l : List Nat}, l ∈ upN h n ↔ l.length = n ∧ ∀ x ∈ l, x ≤ h
  | 0, l => by
    constructor
    · intro hl; simp [upN] at hl; subst hl; exact ⟨rfl, fun x hx => by cases hx⟩
    · rintro ⟨hl, _⟩; have : l = [] := List.eq_nil_of_length_eq_zero hl; subst this; simp [upN]
  | n + 1, l => by
    simp only [upN, List.mem_flatMap, List.mem_range, List.mem_map]
    constructor
    · rintro ⟨j, hj, a, ha, rfl⟩
      obtain ⟨h1, h2⟩ := mem_upN.1 ha
      exact ⟨by simp [h1], fun x hx => by rcases List.mem_cons.1 hx with rfl | hx; · omega
                                          · exact h2 x hx⟩
    · rintro ⟨h1, h2⟩
      cases l with
      | nil => simp at h1
      | cons a l => exact ⟨a, by have := h2 a (by simp); omega, l, mem_upN.2 ⟨by simpa using h1, fun x hx => h2 x (by simp [hx])⟩, rfl⟩
theorem upN_nodup (h : Nat) : ∀ n, (upN h n).Nodup
  | 0 => by simp [upN]
  | n + 1 => by
    have ih := upN_nodup h n
    unfold upN
    have key : ∀ k, ((List.range k).flatMap fun j => (upN h n).map (j :: ·)).Nodup := fun k => by
      induction k with
      | zero => simp
      | succ k ihk =>
        rw [List.range_succ, List.flatMap_append, List.nodup_append]
        refine ⟨ihk, ?_, fun a ha b hb e => ?_⟩
        · simp only [List.flatMap_cons, List.flatMap_nil, List.append_nil]
          exact List.Pairwise.map _ (fun a b hab e => hab (by simpa using e)) ih
        · subst e
          simp only [List.mem_flatMap, List.mem_range, List.mem_map] at ha
          simp only [List.flatMap_cons, List.flatMap_nil, List.append_nil, List.mem_map] at hb
          obtain ⟨j, hj, l, _, rfl⟩ := ha
          obtain ⟨l', _, e⟩ := hb
          have := (List.cons.inj e).1
          omega
    exact key (h + 1)
theorem count_one {α : Type} {p : α → Bool} {a : α} : ∀ {L : List α}, L.Nodup → a ∈ L → p a = true → (∀ b ∈ L, p b = true → b = a) → L.countP p = 1
  | [], _, h, _, _ => by cases h
  | x :: L, hn, h, hp, hu => by
    rw [List.nodup_cons] at hn
    by_cases e : x = a
    · subst e
      rw [List.countP_cons_of_pos hp, List.countP_eq_zero.2 fun b hb hpb => ?_]
      have := hu b (by simp [hb]) hpb
      subst this; exact hn.1 hb
    · have hx : ¬ p x = true := fun hx => e (hu x (by simp) hx)
      rw [List.countP_cons_of_neg hx]
      exact count_one hn.2 (by rcases List.mem_cons.1 h with h | h; · exact absurd h.symm e
                               · exact h) hp fun b hb => hu b (by simp [hb])
theorem count_two {α : Type} {p : α → Bool} {a b : α} : ∀ {L : List α}, a ∈ L → b ∈ L → a ≠ b → p a = true → p b = true → 2 ≤ L.countP p
  | [], h, _, _, _, _ => by cases h
  | x :: L, ha, hb, hne, pa, pb => by
    rcases List.mem_cons.1 ha with rfl | ha'
    · rcases List.mem_cons.1 hb with rfl | hb'
      · exact absurd rfl hne
      · rw [List.countP_cons_of_pos pa]
        have := List.countP_pos_iff.2 ⟨b, hb', pb⟩; omega
    · rcases List.mem_cons.1 hb with rfl | hb'
      · rw [List.countP_cons_of_pos pb]
        have := List.countP_pos_iff.2 ⟨a, ha', pa⟩; omega
      · have := count_two ha' hb' hne pa pb
        rw [List.countP_cons]; omega
/-- two lists of the same length and sum, not the same: one has more here, the other there -/
theorem sum_le_eq : ∀ {a b : List Int}, a.length = b.length → (∀ i, i < a.length → ix b i ≤ ix a i) → lsum b ≤ lsum a ∧ (lsum a = lsum b → a = b)
  | [], [], _, _ => ⟨Int.le_refl _, fun _ => rfl⟩
  | [], _ :: _, h, _ => by simp at h
  | _ :: _, [], h, _ => by simp at h
  | x :: a, y :: b, h, hle => by
    have h0 := hle 0 (by simp)
    have ih := sum_le_eq (a := a) (b := b) (by simpa using h) fun i hi => by have := hle (i + 1) (by simpa using hi); simpa [ix] using this
    simp only [ix, List.getD_cons_zero] at h0
    simp only [lsum]
    refine ⟨by omega, fun e => ?_⟩
    have e1 : x = y := by omega
    have e2 := ih.2 (by omega)
    rw [e1, e2]
theorem two_differ {a b : List Int} (h : a.length = b.length) (hs : lsum a = lsum b) (hne : a ≠ b) : ∃ i, i < a.length ∧ ix a i < ix b i := by
  refine Classical.byContradiction fun hn => hne ((sum_le_eq h fun i hi => ?_).2 hs)
  exact Int.not_lt.1 fun hlt => hn ⟨i, hi, hlt⟩
def natL (l : List Int) : List Nat := l.map Int.toNat
theorem toI_natL {l : List Int} (h : ∀ i, i < l.length → 0 ≤ ix l i) : toI (natL l) = l := by
  apply List.ext_getElem
  · simp [toI, natL]
  · intro i h1 h2
    have := h i h2
    rw [ix_lt h2] at this
    simp [toI, natL]; omega
theorem natL_in {xs l : List Int} {k : Nat} (hl : l.length = xs.length) (h : ∀ i, i < l.length → 0 ≤ ix l i) (hs : lsum l = k) : natL l ∈ upN k xs.length ∧ (natL l).sum = k := by
  have e := toI_natL h
  have e2 := toI_sum (natL l)
  rw [e, hs] at e2
  have e3 : (natL l).sum = k := by omega
  exact ⟨mem_upN.2 ⟨by simp [natL, hl], fun x hx => by rw [← e3]; exact le_sum hx⟩, e3⟩
theorem count_fair {m : Int} {xs : List Int} {k : Int} (h : seatsAskedB m xs k = true) : 1 ≤ cntAll m xs k ∧ (cntAll m xs k = 1 ↔ isTied m xs k = false) := by
  have D := asked_divX h
  obtain ⟨m1, m5, k0, k1, n1, n6, hx⟩ := asked_facts h
  have sl := seatsA_len m xs k.toNat
  have sn : ∀ i, i < (seatsA m xs k.toNat).length → 0 ≤ ix (seatsA m xs k.toNat) i := fun i hi => seatsA_nn D _ i (by rw [← sl]; exact hi)
  have ss := seatsA_sum D k.toNat
  obtain ⟨i1, i2⟩ := natL_in (xs := xs) sl sn ss
  have ok : (fun l : List Nat => l.sum == k.toNat && fairAll m xs (toI l)) (natL (seatsA m xs k.toNat)) = true := by
    show ((natL (seatsA m xs k.toNat)).sum == k.toNat && fairAll m xs (toI (natL (seatsA m xs k.toNat)))) = true
    rw [i2, toI_natL sn, fairAll_iff.2 (seatsA_fair D _)]; simp
  have one : 1 ≤ cntAll m xs k := List.countP_pos_iff.2 ⟨_, i1, ok⟩
  refine ⟨one, ?_⟩
  cases ht : isTied m xs k
  · refine ⟨fun _ => rfl, fun _ => ?_⟩
    unfold cntAll
    refine count_one (upN_nodup _ _) i1 ok fun b hb hpb => ?_
    refine Classical.byContradiction fun hne => ?_
    rw [Bool.and_eq_true, beq_iff_eq, fairAll_iff] at hpb
    obtain ⟨hbl, _⟩ := mem_upN.1 hb
    have hI : ∀ i, i < xs.length → 0 ≤ ix (toI b) i := fun i hi => by rw [ix_lt (by rw [toI_len, hbl]; exact hi)]; simp [toI]
    have e1 : (seatsA m xs k.toNat).length = (toI b).length := by rw [sl, toI_len, hbl]
    have e2 : lsum (seatsA m xs k.toNat) = lsum (toI b) := by rw [ss, toI_sum, hpb.1]
    have e3 : seatsA m xs k.toNat ≠ toI b := fun e => hne (by
      have : natL (toI b) = b := by simp [natL, toI, Function.comp_def]
      rw [← this, ← e])
    obtain ⟨i, hi, hlt⟩ := two_differ e1 e2 e3
    obtain ⟨j, hj, hlt2⟩ := two_differ e1.symm e2.symm fun e => e3 e.symm
    rw [sl] at hi
    rw [toI_len, hbl] at hj
    obtain ⟨t, hkt⟩ : ∃ t, k.toNat = t + 1 := by
      cases hk : k.toNat with
      | zero =>
        rw [hk] at hlt2
        have h1 := hI j hj
        have h2 : ix (seatsA m xs 0) j = 0 := by rw [seatsA, ix_lt (by simpa using hj)]; simp
        omega
      | succ t => exact ⟨t, rfl⟩
    rw [hkt] at hlt hlt2
    obtain ⟨hne2, hcl⟩ := fair_other D t hI hpb.2 hi hj hlt hlt2
    have hon : tiedOn m xs k = true := by unfold tiedOn; rw [h]; simp; omega
    rw [tied_yes hon, Bool.not_eq_false'] at ht
    have hlast : lastOfI (seatOrder m xs k) = bestA m xs t := by
      unfold lastOfI
      rw [seatOrder_yes h, hkt, orderA_len, ix_order _ _ (by omega)]; simp
    rw [hlast, seatsBy_A h, hkt] at ht
    have := allN_iff.1 ht i hi
    rw [tiedAt_eq hne2 hcl] at this
    cases this
  · refine ⟨fun e => ?_, fun e => by cases e⟩
    exfalso
    have hon : tiedOn m xs k = true := by
      cases ho : tiedOn m xs k
      · rw [tied_no ho] at ht; cases ht
      · rfl
    have hk0 : 0 < k := by unfold tiedOn at hon; rw [Bool.and_eq_true, decide_eq_true_eq] at hon; exact hon.2
    obtain ⟨t, hkt⟩ : ∃ t, k.toNat = t + 1 := ⟨k.toNat - 1, by omega⟩
    have hlast : lastOfI (seatOrder m xs k) = bestA m xs t := by
      unfold lastOfI
      rw [seatOrder_yes h, hkt, orderA_len, ix_order _ _ (by omega)]; simp
    rw [tied_yes hon, hlast, seatsBy_A h, hkt, Bool.not_eq_true'] at ht
    have hex : ∃ i, i < xs.length ∧ tiedAt m xs (seatsA m xs (t + 1)) (bestA m xs t) i = true := by
      refine Classical.byContradiction fun hn => ?_
      have : allN (fun i => !tiedAt m xs (seatsA m xs (t + 1)) (bestA m xs t) i) xs.length = true := allN_iff.2 fun i hi => by
        cases hh : tiedAt m xs (seatsA m xs (t + 1)) (bestA m xs t) i
        · rfl
        · exact absurd ⟨i, hi, hh⟩ hn
      rw [this] at ht; cases ht
    obtain ⟨i, hi, hh⟩ := hex
    unfold tiedAt at hh
    rw [Bool.and_eq_true, decide_eq_true_eq, beq_iff_eq] at hh
    have hf := fair_moved D t hi hh.1 hh.2
    have hil : i < (seatsA m xs t).length := by rw [seatsA_len]; exact hi
    have tl : ((seatsA m xs t).set i (ix (seatsA m xs t) i + 1)).length = xs.length := by simp [seatsA_len]
    have tn : ∀ q, q < ((seatsA m xs t).set i (ix (seatsA m xs t) i + 1)).length → 0 ≤ ix ((seatsA m xs t).set i (ix (seatsA m xs t) i + 1)) q := fun q hq => by
      rw [tl] at hq
      have := seatsA_nn D t q hq
      rw [ix_set hil]; split
      · have := seatsA_nn D t i hi; omega
      · exact this
    have ts : lsum ((seatsA m xs t).set i (ix (seatsA m xs t) i + 1)) = k.toNat := by rw [lsum_set' hil, seatsA_sum D t, hkt]; omega
    obtain ⟨j1, j2⟩ := natL_in (xs := xs) tl tn ts
    have ok2 : (fun l : List Nat => l.sum == k.toNat && fairAll m xs (toI l)) (natL ((seatsA m xs t).set i (ix (seatsA m xs t) i + 1))) = true := by
      show ((natL _).sum == k.toNat && fairAll m xs (toI (natL _))) = true
      rw [j2, toI_natL tn, fairAll_iff.2 hf]; simp
    have hne : natL (seatsA m xs k.toNat) ≠ natL ((seatsA m xs t).set i (ix (seatsA m xs t) i + 1)) := fun e => by
      have e1 := congrArg toI e
      rw [toI_natL sn, toI_natL tn, hkt] at e1
      have e2 : ix (seatsA m xs (t + 1)) i = ix ((seatsA m xs t).set i (ix (seatsA m xs t) i + 1)) i := congrArg (fun l => ix l i) e1
      rw [seatsA_next D t, if_neg hh.1, ix_set hil, if_pos rfl] at e2
      omega
    have := count_two (p := fun l : List Nat => l.sum == k.toNat && fairAll m xs (toI l)) i1 j1 hne ok ok2
    unfold cntAll at e
    omega
end Go.Proofs.Ytoajmckhfnaifaa
