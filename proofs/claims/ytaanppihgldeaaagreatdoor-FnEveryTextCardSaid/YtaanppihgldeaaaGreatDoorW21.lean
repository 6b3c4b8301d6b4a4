/- The nearest ranking; Borda both ways round. Plain facts. No program is walked here. Weights and scores, the reference's side. -/
import Derived.Test.YtaanppihgldeaaaGreatDoorW20
import Derived.Test.YtaanppihgldeaaaGreatDoorW10
import Derived.Test.YtaanppihgldeaaaGreatDoorW11
namespace Go.Proofs.YtaanppihgldeaaaGreatDoor
set_option linter.unusedSimpArgs false
set_option linter.unusedVariables false
set_option linter.unusedVariables false
open Go.RowKit

theorem flatP_has {p : Nat → Bool} {g : Nat → List (List Int)} {j : Nat} {x : List Int} (hp : p j = true) (hx : x ∈ g j) : ∀ {k : Nat}, j < k → x ∈ flatP p g k
  | 0, h => absurd h (by omega)
  | k + 1, h => by
    by_cases e : j = k
    · subst e; rw [flatP_yes hp, List.mem_append]; exact .inr hx
    · have := flatP_has hp hx (k := k) (by omega)
      cases hk : p k
      · rw [flatP_no hk]; exact this
      · rw [flatP_yes hk, List.mem_append]; exact .inl this
theorem orders_has : ∀ (f : Nat) (zs r : List Int), r.Perm zs → zs.length ≤ f → r ∈ orders f zs
  | 0, zs, r, h, hl => by
    have hz : zs = [] := List.eq_nil_of_length_eq_zero (by omega)
    subst hz
    rw [h.eq_nil]
    simp [orders]
  | f + 1, zs, r, h, hl => by
    by_cases h0 : zs.length = 0
    · rw [orders_none h0]
      have hz : zs = [] := List.eq_nil_of_length_eq_zero h0
      subst hz
      rw [h.eq_nil]; simp
    · rw [orders_some h0]
      match r, h with
      | [], h => exact absurd (by have := h.length_eq; simpa using this.symm) h0
      | x :: t, h =>
        have hx : x ∈ zs := h.mem_iff.1 (List.mem_cons_self ..)
        obtain ⟨i, hi, e⟩ := List.getElem_of_mem hx
        have hz : zs.Perm (x :: cutAt zs i) := by
          have h1 : zs = zs.take i ++ x :: zs.drop (i + 1) := by
            rw [← e, ← List.drop_eq_getElem_cons hi, List.take_append_drop]
          conv => lhs; rw [h1]
          exact List.perm_middle
        have ht : t.Perm (cutAt zs i) := (h.trans hz).cons_inv
        have hl2 := cutAt_len hi
        refine flatP_has (j := i) rfl ?_ hi
        rw [List.mem_map]
        exact ⟨t, orders_has f _ t ht (by omega), by rw [ix_lt hi, e]⟩
theorem rank_listed {m : Int} {r : List Int} (h : rankOk m r = true) : r ∈ allRankings m := by
  have f := rankOk_facts h
  obtain ⟨M, rfl⟩ : ∃ M : Nat, m = (M : Int) := ⟨m.toNat, by omega⟩
  rw [allRankings_yes (by omega) (by omega)]
  refine orders_has M _ r ?_ (by simp [upTo])
  have := (rank_perm h).symm
  exact this
theorem minIx_min (f : List Int → Int) (rs : List (List Int)) : ∀ k i, i < k → f (rx rs (minIx f rs k)) ≤ f (rx rs i)
  | 0, i, h => absurd h (by omega)
  | k + 1, i, h => by
    rw [minIx]
    have ih := minIx_min f rs k
    by_cases h0 : k = 0
    · subst h0
      obtain rfl : i = 0 := by omega
      rw [if_pos rfl]; exact Int.le_refl _
    · rw [if_neg h0]
      split
      · rename_i hlt
        by_cases e : i = k
        · subst e; exact Int.le_refl _
        · have := ih i (by omega); omega
      · rename_i hlt
        by_cases e : i = k
        · subst e; omega
        · exact ih i (by omega)
/-- the sum of g over all pairs of places, the later one first -/
def dIn (g : Int → Int → Int) (xs : List Int) (i : Nat) : Nat → Int
  | 0 => 0
  | j + 1 => dIn g xs i j + g (ix xs (i + 1 + j)) (ix xs i)
def dOut (g : Int → Int → Int) (xs : List Int) : Nat → Int
  | 0 => 0
  | i + 1 => dOut g xs i + dIn g xs i (xs.length - (i + 1))
theorem swIn_d (xs ys : List Int) (i : Nat) : ∀ j, swIn xs ys i j = dIn (fun b c => if pref ys b c then 1 else 0) xs i j
  | 0 => rfl
  | j + 1 => by rw [swIn, dIn, swIn_d xs ys i j]
theorem swOut_d (xs ys : List Int) : ∀ i, swOut xs ys i = dOut (fun b c => if pref ys b c then 1 else 0) xs i
  | 0 => rfl
  | i + 1 => by rw [swOut, dOut, swOut_d xs ys i, swIn_d]
theorem dIn_lin {g h p q : Int → Int → Int} {xs : List Int} {i : Nat} (e : ∀ b c, b ∈ xs → c ∈ xs → g b c = h b c + p b c - q b c) : ∀ j, i + j < xs.length → dIn g xs i j = dIn h xs i j + dIn p xs i j - dIn q xs i j
  | 0, _ => rfl
  | j + 1, hj => by
    rw [dIn, dIn, dIn, dIn, dIn_lin e j (by omega), e _ _ (ix_mem (by omega)) (ix_mem (by omega))]
    omega
theorem dOut_lin {g h p q : Int → Int → Int} {xs : List Int} (e : ∀ b c, b ∈ xs → c ∈ xs → g b c = h b c + p b c - q b c) : ∀ i, i ≤ xs.length → dOut g xs i = dOut h xs i + dOut p xs i - dOut q xs i
  | 0, _ => rfl
  | i + 1, hi => by
    rw [dOut, dOut, dOut, dOut, dOut_lin e i (by omega), dIn_lin e _ (by omega)]
    omega
theorem dIn_point {xs : List Int} (hn : xs.Nodup) {b c : Int} (hb : b ∈ xs) (hc : c ∈ xs) (i : Nat) (hi : i < xs.length) : ∀ j, i + j < xs.length → dIn (fun x y => if x = b ∧ y = c then 1 else 0) xs i j = if place xs c = (i : Int) ∧ (i : Int) < place xs b ∧ place xs b < (i : Int) + 1 + j then 1 else 0
  | 0, _ => by rw [dIn, if_neg (by omega)]
  | j + 1, hj => by
    have pi := plIx hn hi
    have pj := plIx hn (i := i + 1 + j) (by omega)
    have qb := place_mem.2 hb
    have qc := place_mem.2 hc
    rw [dIn, dIn_point hn hb hc i hi j (by omega)]
    have e1 : ix xs (i + 1 + j) = b ↔ place xs b = (i : Int) + 1 + j := by
      constructor
      · intro h; rw [← h, pj]; omega
      · intro h
        have := place_at qb
        rw [h] at this
        rw [← this]
        rfl
    have e2 : ix xs i = c ↔ place xs c = (i : Int) := by
      constructor
      · intro h; rw [← h, pi]
      · intro h
        have := place_at qc
        rw [h] at this
        exact this
    simp only [e1, e2]
    split <;> split <;> split <;> omega
theorem dOut_point {xs : List Int} (hn : xs.Nodup) {b c : Int} (hb : b ∈ xs) (hc : c ∈ xs) : ∀ i, i ≤ xs.length → dOut (fun x y => if x = b ∧ y = c then 1 else 0) xs i = if place xs c < (i : Int) ∧ place xs c < place xs b then 1 else 0
  | 0, _ => by have := place_mem.2 hc; rw [dOut, if_neg (by omega)]
  | i + 1, hi => by
    have qb := (place_bd xs b).2
    have qc := place_mem.2 hc
    rw [dOut, dOut_point hn hb hc i (by omega), dIn_point hn hb hc i (by omega) _ (by omega)]
    split <;> split <;> split <;> omega
theorem swaps_raise {m : Int} {xs r : List Int} {a y : Int} (hx : rankOk m xs = true) (hr : rankOk m r = true) (h1 : 1 ≤ place r a) (a0 : 0 ≤ a) (a1 : a < m) (y0 : 0 ≤ y) (y1 : y < m) (hy : place r y = place r a - 1) :
    swaps xs (raiseL r a) = swaps xs r + (if pref xs y a then 1 else 0) - (if pref xs a y then 1 else 0) := by
  have X := rkF_of hx
  have R := rkF_of hr
  have RF := raise_facts hr h1
  have R' := rkF_of RF.ok
  have hay : y ≠ a := by rintro rfl; omega
  have ma : a ∈ xs := rkIn hx a0 a1
  have my : y ∈ xs := rkIn hx y0 y1
  unfold swaps
  rw [swOut_d, swOut_d, dOut_lin (h := fun b c => if pref r b c then 1 else 0) (p := fun b c => if b = a ∧ c = y then 1 else 0) (q := fun b c => if b = y ∧ c = a then 1 else 0) (fun b c hb hc => ?_) _ (Nat.le_refl _),
    dOut_point X.nd ma my _ (Nat.le_refl _), dOut_point X.nd my ma _ (Nat.le_refl _), pref_iff X y0 y1 a0 a1, pref_iff X a0 a1 y0 y1]
  · have q1 := (place_bd xs a).2
    have q2 := (place_bd xs y).2
    simp only [decide_eq_true_eq]
    split <;> split <;> split <;> split <;> omega
  · have b1 := X.bd b hb
    have c1 := X.bd c hc
    have pb := RF.pl b b1.1 b1.2
    have pc := RF.pl c c1.1 c1.2
    have qb := R.pl b b1.1 b1.2
    have qc := R.pl c c1.1 c1.2
    have iba : place r b = place r a ↔ b = a := ⟨fun e => R.inj b a b1.1 b1.2 e, fun e => by rw [e]⟩
    have ica : place r c = place r a ↔ c = a := ⟨fun e => R.inj c a c1.1 c1.2 e, fun e => by rw [e]⟩
    have iby : place r b = place r y ↔ b = y := ⟨fun e => R.inj b y b1.1 b1.2 e, fun e => by rw [e]⟩
    have icy : place r c = place r y ↔ c = y := ⟨fun e => R.inj c y c1.1 c1.2 e, fun e => by rw [e]⟩
    rw [pref_iff R' b1.1 b1.2 c1.1 c1.2, pref_iff R b1.1 b1.2 c1.1 c1.2, pb, pc]
    simp only [decide_eq_true_eq, ← iba, ← ica, ← iby, ← icy, hy]
    split <;> split <;> split <;> (try split) <;> (try split) <;> (try split) <;> (try split) <;> (try split) <;> omega
theorem win13 {m : Int} {vs : List Vt} : winnersP 13 m vs = [ix (kemenyR m vs) 0] := by
  unfold winnersP
  simp only [Int.reduceEq, if_true, if_false]
theorem cond_kem {m : Int} {vs : List Vt} {a : Int} (hp : profOk m vs = true) (C : Cond m vs a) : winnerR 13 m vs = a := by
  have F := pf_of hp
  rw [winner_of hp win13 (by simp)]
  show ix (kemenyR m vs) 0 = a
  have hlt := minIx_lt (kem vs) (allRankings m) _ (rank_some F.m1 F.m5)
  have hr : rankOk m (kemenyR m vs) = true := rank_all' F.m1 F.m5 (rx_mem hlt)
  have hmin : ∀ r, rankOk m r = true → kem vs (kemenyR m vs) ≤ kem vs r := fun r h => by
    obtain ⟨i, hi, e⟩ := List.getElem_of_mem (rank_listed h)
    have := minIx_min (kem vs) (allRankings m) (allRankings m).length i hi
    rw [rx_lt hi, e] at this
    exact this
  generalize kemenyR m vs = r at *
  have R := rkF_of hr
  have hpa := R.pl a C.a0 C.a1
  by_cases h0 : place r a = 0
  · have := place_at hpa.1
    rw [h0] at this
    exact this
  · exfalso
    have h1 : 1 ≤ place r a := by omega
    have hl := R.len
    have hym := ix_mem (xs := r) (j := (place r a - 1).toNat) (by omega)
    have hyp := plIx R.nd (i := (place r a - 1).toNat) (by omega)
    generalize ix r (place r a - 1).toNat = y at *
    have hyb := R.bd y hym
    have hy : place r y = place r a - 1 := by omega
    have hya : y ≠ a := by rintro rfl; omega
    have hk := hmin _ (raise_facts hr h1).ok
    have e : kem vs (raiseL r a) = kem vs r + pairP vs y a - pairP vs a y := by
      unfold pairP
      rw [kem_wsm, kem_wsm, vts_wsm, vts_wsm, ← wsm_add, ← wsm_sub]
      refine wsm_congr fun v hv => ?_
      rw [swaps_raise (F.r v hv) hr h1 C.a0 C.a1 hyb.1 hyb.2 hy, Int.mul_sub, Int.mul_add]
      split <;> split <;> simp
    have := C.beat y hyb.1 hyb.2 hya
    omega
/-- all rankings the other way round -/
def revV (vs : List Vt) : List Vt := vs.map fun v => ⟨v.r.reverse, v.c⟩
theorem ix_rev {r : List Int} {i : Nat} (h : i < r.length) : ix r.reverse i = ix r (r.length - 1 - i) := by
  rw [ix_lt (by simpa using h), ix_lt (by omega), List.getElem_reverse]
theorem rev_ok {m : Int} {r : List Int} (h : rankOk m r = true) : rankOk m r.reverse = true := by
  have f := rankOk_facts h
  have R := rkF_of h
  refine rank_of f.1 f.2.1 (by rw [List.length_reverse]; exact f.2.2.1) (fun i hi => ?_) (fun i j hij hj e => ?_)
  · rw [List.length_reverse] at hi
    rw [ix_rev hi]
    exact f.2.2.2 _ (by omega)
  · rw [List.length_reverse] at hj
    rw [ix_rev (by omega), ix_rev hj] at e
    have := ix_inj R.nd (by omega) (by omega) e
    omega
theorem rev_place {m : Int} {r : List Int} (h : rankOk m r = true) {a : Int} (a0 : 0 ≤ a) (a1 : a < m) : place r.reverse a = m - 1 - place r a := by
  have R := rkF_of h
  have R' := rkF_of (rev_ok h)
  have hp := R.pl a a0 a1
  have hl := R.len
  have e : ix r.reverse (r.length - 1 - (place r a).toNat) = a := by
    rw [ix_rev (by omega), show r.length - 1 - (r.length - 1 - (place r a).toNat) = (place r a).toNat by omega]
    exact place_at hp.1
  have := plIx R'.nd (i := r.length - 1 - (place r a).toNat) (by rw [List.length_reverse]; omega)
  rw [e] at this
  omega
theorem revV_ok {m : Int} {vs : List Vt} (h : profOk m vs = true) : profOk m (revV vs) = true := by
  unfold profOk revV at *
  rw [Bool.and_eq_true, Bool.and_eq_true, decide_eq_true_eq, List.all_eq_true] at h ⊢
  refine ⟨⟨h.1.1, by rw [List.length_map]; exact h.1.2⟩, fun v hv => ?_⟩
  obtain ⟨u, hu, rfl⟩ := List.mem_map.1 hv
  have := h.2 u hu
  unfold voteOk at this ⊢
  rw [Bool.and_eq_true] at this ⊢
  exact ⟨rev_ok this.1, this.2⟩
theorem wsm_map (g : Vt → Int) (f : Vt → Vt) : ∀ l : List Vt, wsm g (l.map f) = wsm (fun v => g (f v)) l
  | [] => rfl
  | v :: l => by rw [List.map_cons, wsm, wsm, wsm_map g f l]
theorem bord_ix {m : Int} (h1 : 1 ≤ m) (h5 : m ≤ 5) {i : Nat} (hi : (i : Int) < m) : ix (bordW m) i = m - 1 - (i : Int) := by
  unfold bordW wtsOf
  rw [inB_15 h1 h5, if_pos rfl, mapTo_ix (by omega)]
theorem bord_rev {m : Int} {vs : List Vt} (F : PF m vs) {i : Nat} (hi : (i : Int) < m) : sco (bordW m) (revV vs) i + sco (bordW m) vs i = (m - 1) * votersP vs := by
  unfold sco revV votersP
  rw [wsm_map, vts_wsm, ← wsm_add, ← wsm_mul]
  refine wsm_congr fun v hv => ?_
  have hr := F.r v hv
  have R := rkF_of hr
  have hp := R.pl (i : Int) (by omega) hi
  have m1 := F.m1
  have m5 := F.m5
  rw [rev_place hr (by omega) hi, bord_ix m1 m5 (by omega), bord_ix m1 m5 (by omega), ← Int.mul_add, Int.toNat_of_nonneg hp.1, Int.toNat_of_nonneg (by omega)]
  rw [show m - 1 - (m - 1 - place v.r (i : Int)) + (m - 1 - place v.r (i : Int)) = m - 1 by omega, Int.mul_comm]
  simp
theorem rev_borda {m : Int} {vs : List Vt} (hp : profOk m vs = true) (m2 : 2 ≤ m) (h1 : (winnersR 2 m vs).length = 1) : winnersR 2 m vs ≠ winnersR 2 m (revV vs) := by
  intro he
  have F := pf_of hp
  have hq := revV_ok hp
  have F' := pf_of hq
  have S := scR2 F.m1 F.m5
  rw [winnersR_yes hp, S.is vs hp] at h1 he
  rw [winnersR_yes hq, S.is _ hq] at he
  obtain ⟨a, ha⟩ : ∃ a, greatest (scores m vs (bordW m)) = [a] := by
    match h : greatest (scores m vs (bordW m)), h1 with
    | [a], _ => exact ⟨a, rfl⟩
  have hl := scores_len m vs (bordW m)
  have hl' := scores_len m (revV vs) (bordW m)
  have hlm := F.m1
  have mem1 : ∀ x, x ∈ greatest (scores m vs (bordW m)) ↔ ∃ j : Nat, j < m.toNat ∧ x = (j : Int) ∧ ix (scores m vs (bordW m)) j = lmax (scores m vs (bordW m)) := fun x => by
    unfold greatest; rw [greatTo_mem, hl]
  have mem2 : ∀ x, x ∈ greatest (scores m (revV vs) (bordW m)) ↔ ∃ j : Nat, j < m.toNat ∧ x = (j : Int) ∧ ix (scores m (revV vs) (bordW m)) j = lmax (scores m (revV vs) (bordW m)) := fun x => by
    unfold greatest; rw [greatTo_mem, hl']
  obtain ⟨j, hj, ej, tj⟩ := (mem1 a).1 (by rw [ha]; simp)
  obtain ⟨j', hj', ej', tj'⟩ := (mem2 a).1 (by rw [← he, ha]; simp)
  obtain rfl : j = j' := by omega
  obtain ⟨i, hi, hij⟩ : ∃ i : Nat, i < m.toNat ∧ i ≠ j := by
    by_cases e : j = 0
    · exact ⟨1, by omega, by omega⟩
    · exact ⟨0, by omega, by omega⟩
  have u1 := lmax_up (xs := scores m vs (bordW m)) (j := i) (by omega)
  have u2 := lmax_up (xs := scores m (revV vs) (bordW m)) (j := i) (by omega)
  rw [← tj, scores_ix F _ hi, scores_ix F _ hj] at u1
  rw [← tj', scores_ix F' _ hi, scores_ix F' _ hj] at u2
  have b1 := bord_rev F (i := i) (by omega)
  have b2 := bord_rev F (i := j) (by omega)
  have heq : sco (bordW m) vs i = sco (bordW m) vs j := by omega
  have : (i : Int) ∈ greatest (scores m vs (bordW m)) := (mem1 _).2 ⟨i, hi, rfl, by rw [← tj, scores_ix F _ hi, scores_ix F _ hj]; exact heq⟩
  rw [ha, List.mem_singleton] at this
  omega
end Go.Proofs.YtaanppihgldeaaaGreatDoor
namespace Go.Proofs.YtaanppihgldeaaaGreatDoor
set_option linter.unusedSimpArgs false
set_option linter.unusedVariables false
set_option linter.unusedVariables false
open Go.RowKit

theorem mapTo_lfn (f : Int → Int) (k : Nat) : mapTo f k = lfn (fun i => f (i : Int)) k := by
  apply List.ext_getElem
  · rw [mapTo_len, lfn_len]
  · intro i h1 h2
    rw [mapTo_len] at h1
    rw [← ix_lt, ← ix_lt, mapTo_ix h1, lfn_ix h1]
set_option maxRecDepth 100000 in
set_option maxHeartbeats 1000000 in
theorem specWeightsOk (m : Int) (A : Option Addr) (n c : Nat) (ws : List Int) (w : World) (h : IntsAt w A n ws) (hn : n ≤ 1048576) :
    Calls Tryz.prog 211 #[.int .i64 m, .slice A n c] w fun e w' => e = .returned (.bool (weightsOk m ws)) ∧ w = w' := by
  obtain rfl := h.len
  unfold weightsOk
  cases hm : inB m 1 5
  · go_enter Tryz.func211, Tryz.ntmps211
    go_wp2_with fail
    (with_reducible refine (l01In_any _ _ _ _).mono ?_)
    rintro e w1 ⟨rfl, rfl⟩
    rw [hm]
    go_wp2
    go_ret
    exact ⟨by simp, rfl⟩
  by_cases hl : (ws.length : Int) = m
  case neg =>
    rw [decide_eq_false hl]
    have hl2 : ((ws.length : Int) != m) = true := by rw [bne_iff_ne]; exact hl
    go_enter Tryz.func211, Tryz.ntmps211
    go_wp2_with fail
    (with_reducible refine (l01In_any _ _ _ _).mono ?_)
    rintro e w1 ⟨rfl, rfl⟩
    rw [hm]
    go_wp2
    go_ret
    exact ⟨by simp, rfl⟩
  subst hl
  obtain ⟨T, hT⟩ : ∃ T, (ws.all (inB · 0 100) && descB ws) = T := ⟨_, rfl⟩
  have HT := Lib.hid hT
  have HP : Hid ((true && decide ((ws.length : Int) = ws.length) && ws.all (inB · 0 100) && descB ws) = T) := by show _ = _; rw [← hT]; simp
  clear hT
  have e00 : ((ws.length : Int) != (ws.length : Int)) = false := by simp
  go_enter Tryz.func211, Tryz.ntmps211
  go_wp2_with fail
  (with_reducible refine (l01In_any _ _ _ _).mono ?_)
  rintro e w1 ⟨rfl, rfl⟩
  rw [hm]
  go_wp2
  go_loopw [5, 6, 18] (fun _ _ i wr => ∃ k : Nat, k ≤ ws.length ∧ i = .int .i64 k ∧ Hid ((∀ j, j < k → inB (ix ws j) 0 100 = true) ∧ ∀ j, j + 1 < k → ix ws (j + 1) ≤ ix ws j) ∧ wr = w) (fun _ _ i _ => ws.length - (intOf i).toNat)
  case atStart => exact ⟨0, Nat.zero_le _, rfl, ⟨fun j hj => by omega, fun j hj => by omega⟩, rfl⟩
  case round =>
    obtain ⟨k, hk, rfl, HK, rfl⟩ := hrel
    by_cases hlt : k < ws.length
    · obtain ⟨b, o, rfl, _, hc⟩ := h.at_ hlt
      have d := hc k hlt
      cases hv : inB (ix ws k) 0 100
      · have HF : Hid (false = T) := by
          show _ = _
          rw [← HT.out, List.all_eq_false.2 ⟨_, ix_mem hlt, by rw [hv]; simp⟩]; rfl
        clear hc
        go_wp2_with fail
        (with_reducible refine (l01In_any _ _ _ _).mono ?_)
        rintro e w5 ⟨rfl, rfl⟩
        rw [hv]
        go_wp2
        go_ret
        exact ⟨ret_b (by rw [HP.out, ← HF.out]), rfl⟩
      have HV := Lib.hid hv
      have i1 : (k : Int) < (ws.length : Int) := by omega
      rcases Nat.eq_zero_or_pos k with h0 | h0
      · have e0 : decide ((0 : Int) < (k : Int)) = false := decide_eq_false (by omega)
        have HN : Hid ((∀ j, j < k + 1 → inB (ix ws j) 0 100 = true) ∧ ∀ j, j + 1 < k + 1 → ix ws (j + 1) ≤ ix ws j) := by
          refine ⟨fun j hj => ?_, fun j hj => by omega⟩
          have e : j = k := by omega
          rw [e]; exact HV.out
        have e0' : ¬ ((0 : Int) < (k : Int)) := by omega
        clear hc h0
        go_wp2_with fail
        (with_reducible refine (l01In_any _ _ _ _).mono ?_)
        rintro e w5 ⟨rfl, rfl⟩
        rw [hv]
        clear hv
        go_wp2
        go_roundw
        case rel => exact ⟨k + 1, by omega, by go_num, HN, by trivial⟩
        case measure => simp [intOf]; omega
      · obtain ⟨k', rfl⟩ : ∃ k', k = k' + 1 := ⟨k - 1, by omega⟩
        have d2 := hc k' (by omega)
        have e0 : (0 : Int) < ((k' + 1 : Nat) : Int) := by omega
        have ew : IntKind.i64.wrap (((k' + 1 : Nat) : Int) - 1) = (k' : Int) := by rw [IntWalk.i64_in _ (by omega)]; omega
        have e2 : ((k' + 1 : Nat) : Int) - 1 = (k' : Int) := by omega
        have i2 : (k' : Int) < (ws.length : Int) := by omega
        clear hc h0
        by_cases hgt : ix ws k' < ix ws (k' + 1)
        · have HF : Hid (false = T) := by
            show _ = _
            rw [← HT.out, descB_false (ws := ws) (j := k') (by omega) hgt]; simp
          generalize ix ws k' = x at *
          generalize ix ws (k' + 1) = y at *
          go_wp2_with fail
          (with_reducible refine (l01In_any _ _ _ _).mono ?_)
          rintro e w5 ⟨rfl, rfl⟩
          rw [hv]
          clear hv
          go_wp2
          go_ret
          exact ⟨ret_b (by rw [HP.out, ← HF.out]), rfl⟩
        · have HN : Hid ((∀ j, j < k' + 1 + 1 → inB (ix ws j) 0 100 = true) ∧ ∀ j, j + 1 < k' + 1 + 1 → ix ws (j + 1) ≤ ix ws j) := by
            refine ⟨fun j hj => ?_, fun j hj => ?_⟩
            · by_cases e : j = k' + 1
              · subst e; exact HV.out
              · exact HK.out.1 j (by omega)
            · by_cases e : j = k'
              · subst e; omega
              · exact HK.out.2 j (by omega)
          generalize ix ws k' = x at *
          generalize ix ws (k' + 1) = y at *
          go_wp2_with fail
          (with_reducible refine (l01In_any _ _ _ _).mono ?_)
          rintro e w5 ⟨rfl, rfl⟩
          rw [hv]
          clear hv
          go_wp2
          go_roundw
          case rel => exact ⟨k' + 1 + 1, by omega, by go_num, HN, by trivial⟩
          case measure => simp [intOf]; omega
    · obtain rfl : k = ws.length := by omega
      have HF : Hid (true = T) := by
        show _ = _
        rw [← HT.out, descB_true (fun j hj => HK.out.2 j hj), List.all_eq_true.2 (fun x hx => by
          obtain ⟨j, hj, rfl⟩ := List.getElem_of_mem hx
          rw [← ix_lt hj]; exact HK.out.1 j hj)]; rfl
      go_wp2
      go_ret
      exact ⟨ret_b (by rw [HP.out, ← HF.out]), rfl⟩
theorem plurW_eq {M : Nat} (h1 : 1 ≤ M) (h5 : M ≤ 5) : plurW (M : Int) = (List.replicate M 0).set 0 1 := by
  unfold plurW wtsOf
  rw [inB_15 (by omega) (by omega), if_pos rfl, Int.toNat_natCast, mapTo_lfn, lfn_rep, lfn_set 1 h1]
  refine lfn_ext fun i _ => ?_
  by_cases e : i = 0
  · subst e; rfl
  · rw [if_neg e]; omega
theorem specPlurality (m : Int) (w : World) :
    Calls Tryz.prog 129 #[.int .i64 m] w fun e w' => ∃ A' c', e = .returned (.slice A' (plurW m).length c') ∧ OwnI w' w.heap.size w'.heap.size (.slice A' (plurW m).length c') (plurW m) ∧ Below w.heap.size w w' := by
  cases hm : inB m 1 5
  · have e : plurW m = [] := by unfold plurW wtsOf; rw [hm]; rfl
    rw [e]
    go_enter Tryz.func129, Tryz.ntmps129
    go_wp2_with fail
    (with_reducible refine (l01In_any _ _ _ _).mono ?_)
    rintro e w1 ⟨rfl, rfl⟩
    rw [hm]
    go_wp2
    go_ret
    exact ⟨_, _, rfl, OwnI.nil _ _ _, Below.refl _ _⟩
  have hm' := inB_iff.1 hm
  obtain ⟨M, rfl⟩ : ∃ M : Nat, m = (M : Int) := ⟨m.toNat, by omega⟩
  have HE := Lib.hid (plurW_eq (M := M) (by omega) (by omega))
  have el : (plurW (M : Int)).length = M := by rw [HE.out]; simp
  rw [el]
  go_enter Tryz.func129, Tryz.ntmps129
  go_wp2_with fail
  (with_reducible refine (l01In_any _ _ _ _).mono ?_)
  rintro e w1 ⟨rfl, rfl⟩
  rw [hm]
  clear hm
  go_wp2_with ((with_reducible refine wpList_make_ints _ rfl _ _ rfl M rfl rfl (by omega) ?_))
  intro w2 ho hb hs
  have f1 := ho.frozenAt 0
  have f2 := ho.cellAt 0 (by omega)
  obtain ⟨ho6, hon6⟩ := ho.stored 0 1
  rw [← HE.out] at ho6
  have i1 : (0 : Int) < (M : Int) := by omega
  have hz := hb.size
  have hB := hb.trans (hon6.toBelow (Nat.le_refl _) hz)
  have HO := Lib.hid (ho6.mono (Nat.le_refl _) (show w.heap.size + 1 ≤ (w2.setCell ⟨w.heap.size, 0, none⟩ (.int .i64 1)).heap.size by rw [World.size_setCell]; omega))
  clear ho ho6 hon6 hs hb el
  go_wp2
  go_ret
  exact ⟨_, _, rfl, HO.out, hB⟩
theorem specBorda (m : Int) (w : World) :
    Calls Tryz.prog 130 #[.int .i64 m] w fun e w' => ∃ A' c', e = .returned (.slice A' (bordW m).length c') ∧ OwnI w' w.heap.size w'.heap.size (.slice A' (bordW m).length c') (bordW m) ∧ Below w.heap.size w w' := by
  cases hm : inB m 1 5
  · have e : bordW m = [] := by unfold bordW wtsOf; rw [hm]; rfl
    rw [e]
    go_enter Tryz.func130, Tryz.ntmps130
    go_wp2_with fail
    (with_reducible refine (l01In_any _ _ _ _).mono ?_)
    rintro e w1 ⟨rfl, rfl⟩
    rw [hm]
    go_wp2
    go_ret
    exact ⟨_, _, rfl, OwnI.nil _ _ _, Below.refl _ _⟩
  have hm' := inB_iff.1 hm
  obtain ⟨M, rfl⟩ : ∃ M : Nat, m = (M : Int) := ⟨m.toNat, by omega⟩
  have HE : Hid (bordW (M : Int) = mapTo (fun a => (M : Int) - 1 - a) M) := by show _ = _; unfold bordW wtsOf; rw [hm, if_pos rfl, Int.toNat_natCast]
  have el : (bordW (M : Int)).length = M := by rw [HE.out, mapTo_len]
  rw [el]
  have b0 := alloc_below w (.cells #[] 3)
  have o0 := OwnI.empty w (lo := w.heap.size) (hi := (w.alloc (.cells #[] 3)).heap.size) (Nat.le_refl _) (by simp)
  have z0 : w.heap.size < (w.alloc (.cells #[] 3)).heap.size := by simp
  have ew : IntKind.i64.wrap ((M : Int) - 1) = (M : Int) - 1 := IntWalk.i64_in _ (by omega)
  go_enter Tryz.func130, Tryz.ntmps130
  go_wp2_with fail
  (with_reducible refine (l01In_any _ _ _ _).mono ?_)
  rintro e w1 ⟨rfl, rfl⟩
  rw [hm]
  clear hm el
  go_wp2
  go_loopw [3, 4] (fun v i wr => ∃ (k : Nat) (A' : Option Addr) (c' : Nat), k ≤ M ∧ i = .int .i64 ((M : Int) - 1 - k) ∧ v = .slice A' k c' ∧ OwnI wr w.heap.size wr.heap.size (.slice A' k c') (mapTo (fun a => (M : Int) - 1 - a) k) ∧ Below w.heap.size w wr) (fun _ i _ => (intOf i + 1).toNat)
  case atStart => exact ⟨0, _, 0, Nat.zero_le _, by simp, rfl, o0, b0⟩
  case round =>
    clear o0 b0 z0
    obtain ⟨k, A1, c1, hk, rfl, rfl, ho, hb⟩ := hrel
    have z2 := hb.size
    by_cases hlt : k < M
    · have HS : Hid (mapTo (fun a => (M : Int) - 1 - a) (k + 1) = mapTo (fun a => (M : Int) - 1 - a) k ++ [(M : Int) - 1 - (k : Int)]) := rfl
      have hl := mapTo_len (fun a => (M : Int) - 1 - a) k
      have e2 : (M : Int) - 1 - ((k : Int) + 1) = (M : Int) - 1 - (k : Int) - 1 := by omega
      have e1 : (0 : Int) ≤ (M : Int) - 1 - (k : Int) := by omega
      generalize mapTo (fun a => (M : Int) - 1 - a) k = xs at *
      have HL := Lib.hid hl
      clear hl
      obtain ⟨y, hy⟩ : ∃ y, (M : Int) - 1 - (k : Int) = y := ⟨_, rfl⟩
      rw [hy] at HS e1
      have HY := Lib.hid hy
      rw [hy]
      have bdy : y ≤ 5 := by omega
      clear hy e2
      go_wp2_with (at_builtin; refine wpList_append_int _ rfl _ _ rfl (w.heap.size) _ (k) _ _ _ rfl (ho.alloc _) (y) _ 1 rfl (new_cell _ _ _ rfl) (by omega) (by simp; omega) (by simp; omega) ?_)
      intro A4 c4 w4 o4 on4
      have hb4 := (hb.alloc z2 (.cells #[.int .i64 y] 3)).trans (on4.toBelow (Nat.le_refl _) (by simp; omega))
      clear on4 ho
      go_wp2
      go_roundw
      case rel => exact ⟨k + 1, A4, c4, by omega, by have := HY.out; congr 1; omega, rfl, by rw [HS.out]; exact o4, hb4⟩
      case measure => simp [intOf]; omega
    · obtain rfl : k = M := by omega
      have e1 : ¬ ((0 : Int) ≤ (k : Int) - 1 - (k : Int)) := by omega
      rw [← HE.out] at ho
      go_wp2
      go_ret
      exact ⟨_, _, rfl, ho, hb⟩
end Go.Proofs.YtaanppihgldeaaaGreatDoor
