/- Rankings hold each candidate once: plain facts (as in Mkt.tpl; never import both). No program is walked here. Votes as weighted sums; the first of the greatest: plain facts. No program is walked here. Support, presence and unity: plain facts on rules of scores, Copeland and maximin. No program is walked here. -/
import Derived.Test.YtaanppihgldeaaaGreatDoorW03
import Derived.Test.YtaanppihgldeaaaGreatDoorW18
namespace Go.Proofs.YtaanppihgldeaaaGreatDoor
set_option linter.unusedSimpArgs false
set_option linter.unusedVariables false
set_option linter.unusedVariables false
open Go.RowKit

theorem rank_nodup {m : Int} {xs : List Int} (h : rankOk m xs = true) : xs.Nodup := by
  unfold rankOk at h
  rw [Bool.and_eq_true, rankTo_iff] at h
  rw [← nodup_iff, allN_iff]
  intro k hk
  rw [Bool.not_eq_true', has_not]
  exact (h.2 k hk).2
/-- a ranking holds each of the first numbers -/
theorem rank_perm {n : Nat} {xs : List Int} (h : rankOk n xs = true) : ((List.range n).map fun (j : Nat) => (j : Int)).Perm xs := by
  obtain ⟨_, _, h3, h4⟩ := rankOk_facts h
  have hl : xs.length = n := by omega
  refine perm_of xs _ (rank_nodup h) ?_ (by simp [hl])
  intro x hx
  obtain ⟨i, hi, rfl⟩ := List.getElem_of_mem hx
  have := h4 i hi
  rw [ix_lt hi] at this
  exact List.mem_map.2 ⟨xs[i].toNat, by rw [List.mem_range]; omega, by omega⟩
theorem rank_has {n : Nat} {xs : List Int} (h : rankOk n xs = true) {x : Int} (h0 : 0 ≤ x) (h1 : x < n) : x ∈ xs :=
  (rank_perm h).mem_iff.1 (List.mem_map.2 ⟨x.toNat, by rw [List.mem_range]; omega, by omega⟩)
theorem rank_place {n : Nat} {xs : List Int} (h : rankOk n xs = true) {x : Int} (h0 : 0 ≤ x) (h1 : x < n) : 0 ≤ place xs x ∧ place xs x < n := by
  have := place_mem.2 (rank_has h h0 h1)
  have := place_bd xs x
  have := (rankOk_facts h).2.2.1
  omega

structure MatchF (xss yss : List (List Int)) (zs : List Int) : Prop where
  lo : 1 ≤ xss.length
  hi : xss.length ≤ 5
  wl : yss.length = xss.length
  zl : zs.length = xss.length
  rank : rankOk xss.length zs = true
  mr : ∀ i, i < xss.length → rankOk xss.length (rx xss i) = true
  wr : ∀ i, i < xss.length → rankOk xss.length (rx yss i) = true
  z : ∀ i, i < xss.length → 0 ≤ ix zs i ∧ ix zs i < xss.length
structure MarketF (xss yss : List (List Int)) : Prop where
  lo : 1 ≤ xss.length
  hi : xss.length ≤ 5
  wl : yss.length = xss.length
  mr : ∀ i, i < xss.length → rankOk xss.length (rx xss i) = true
  wr : ∀ i, i < xss.length → rankOk xss.length (rx yss i) = true
theorem market_facts {xss yss : List (List Int)} (h : marketOk xss yss = true) : MarketF xss yss := by
  unfold marketOk listsOk at h
  simp only [Bool.and_eq_true, inB_iff, decide_eq_true_eq, List.all_eq_true] at h
  obtain ⟨⟨⟨h1, h2⟩, h3⟩, h4⟩ := h
  exact ⟨by omega, by omega, by omega, fun i hi => h3 _ (rx_mem hi), fun i hi => h4 _ (rx_mem (by omega))⟩
theorem match_facts {xss yss : List (List Int)} {zs : List Int} (h : matchOk xss yss zs = true) : MatchF xss yss zs := by
  unfold matchOk at h
  rw [Bool.and_eq_true] at h
  obtain ⟨f1, f2, f3, f4, f5⟩ := market_facts h.1
  have r := rankOk_facts h.2
  exact ⟨f1, f2, f3, by omega, h.2, f4, f5, fun i hi => r.2.2.2 i (by omega)⟩
theorem rank_len {n : Nat} {xs : List Int} (h : rankOk n xs = true) : xs.length = n := by have := (rankOk_facts h).2.2.1; omega

/-- in no place does the second matching give a man one whom he prefers -/
def atLeast (xss yss : List (List Int)) (us vs : List Int) : Bool := matchOk xss yss us && matchOk xss yss vs && allN (fun i => !pref (rx xss i) (ix vs i) (ix us i)) xss.length
end Go.Proofs.YtaanppihgldeaaaGreatDoor
namespace Go.Proofs.YtaanppihgldeaaaGreatDoor
set_option linter.unusedSimpArgs false
set_option linter.unusedVariables false
set_option linter.unusedVariables false
open Go.RowKit

/-- every candidate is in a ranking -/
theorem rkIn {m : Int} {xs : List Int} (h : rankOk m xs = true) {a : Int} (h0 : 0 ≤ a) (h1 : a < m) : a ∈ xs := by
  obtain ⟨M, rfl⟩ : ∃ M : Nat, m = (M : Int) := ⟨m.toNat, by omega⟩
  exact rank_has h h0 h1
theorem prIrr (r : List Int) (a : Int) : pref r a a = false := by
  unfold pref
  simp
theorem plIx {xs : List Int} (hn : xs.Nodup) {i : Nat} (h : i < xs.length) : place xs (ix xs i) = (i : Int) := by
  obtain ⟨p, hp⟩ : ∃ p, place xs (ix xs i) = p := ⟨_, rfl⟩
  have h0 := place_mem.2 (ix_mem h)
  have h1 := place_at h0
  have h2 := (place_bd xs (ix xs i)).2
  rw [hp] at h0 h1 h2 ⊢
  have h3 : p.toNat < xs.length := by omega
  rw [ix_lt h3, ix_lt h] at h1
  have := (List.getElem_inj hn).1 h1
  omega
/-- the sum of g over the votes -/
def wsm (g : Vt → Int) : List Vt → Int
  | [] => 0
  | v :: l => g v + wsm g l
theorem wsm_app (g : Vt → Int) : ∀ l l' : List Vt, wsm g (l ++ l') = wsm g l + wsm g l'
  | [], l' => by simp [wsm]
  | v :: l, l' => by rw [List.cons_append, wsm, wsm, wsm_app g l l']; omega
theorem wsm_le {g h : Vt → Int} : ∀ {l : List Vt}, (∀ v ∈ l, g v ≤ h v) → wsm g l ≤ wsm h l
  | [], _ => Int.le_refl _
  | v :: l, H => by
    have h1 := H v (List.mem_cons_self ..)
    have h2 := wsm_le (l := l) fun x hx => H x (List.mem_cons_of_mem _ hx)
    rw [wsm, wsm]; omega
theorem wsm_congr {g h : Vt → Int} {l : List Vt} (H : ∀ v ∈ l, g v = h v) : wsm g l = wsm h l :=
  Int.le_antisymm (wsm_le fun v hv => Int.le_of_eq (H v hv)) (wsm_le fun v hv => Int.le_of_eq (H v hv).symm)
theorem wsm_add (g h : Vt → Int) : ∀ l : List Vt, wsm (fun v => g v + h v) l = wsm g l + wsm h l
  | [] => rfl
  | v :: l => by rw [wsm, wsm, wsm, wsm_add g h l]; omega
theorem wsm_sub (g h : Vt → Int) : ∀ l : List Vt, wsm (fun v => g v - h v) l = wsm g l - wsm h l
  | [] => rfl
  | v :: l => by rw [wsm, wsm, wsm, wsm_sub g h l]; omega
theorem wsm_mul (c : Int) (g : Vt → Int) : ∀ l : List Vt, wsm (fun v => c * g v) l = c * wsm g l
  | [] => by simp [wsm]
  | v :: l => by rw [wsm, wsm, wsm_mul c g l, Int.mul_add]
theorem wsm_zero : ∀ l : List Vt, wsm (fun _ => 0) l = 0
  | [] => rfl
  | v :: l => by rw [wsm, wsm_zero l]; rfl
theorem wsm_nonneg {g : Vt → Int} {l : List Vt} (H : ∀ v ∈ l, 0 ≤ g v) : 0 ≤ wsm g l := by
  have := wsm_le (g := fun _ => 0) (h := g) H
  rw [wsm_zero] at this
  exact this
theorem wsm_set (g : Vt → Int) : ∀ {l : List Vt} {k : Nat}, k < l.length → ∀ v, wsm g (l.set k v) = wsm g l - g (vx l k) + g v
  | [], _, h, _ => absurd h (by simp)
  | a :: l, 0, _, v => by show g v + wsm g l = g a + wsm g l - g a + g v; omega
  | a :: l, k + 1, h, v => by
    have ih := wsm_set g (l := l) (k := k) (by simpa using h) v
    show g a + wsm g (l.set k v) = g a + wsm g l - g (vx l k) + g v
    omega
theorem wsm_erase (g : Vt → Int) : ∀ {l : List Vt} {k : Nat}, k < l.length → wsm g (l.take k ++ l.drop (k + 1)) = wsm g l - g (vx l k)
  | [], _, h => absurd h (by simp)
  | a :: l, 0, _ => by show wsm g l = g a + wsm g l - g a; omega
  | a :: l, k + 1, h => by
    have ih := wsm_erase g (l := l) (k := k) (by simpa using h)
    show g a + wsm g (l.take k ++ l.drop (k + 1)) = g a + wsm g l - g (vx l k)
    omega
theorem wsm_split (g : Vt → Int) (l : List Vt) (k : Nat) : wsm g l = wsm g (l.take k) + wsm g (l.drop k) := by
  rw [← wsm_app, List.take_append_drop]
theorem vtsTo_wsm (f : List Int → Bool) (vs : List Vt) : ∀ k, k ≤ vs.length → vtsTo f vs k = wsm (fun v => if f v.r then v.c else 0) (vs.take k)
  | 0, _ => rfl
  | k + 1, h => by
    rw [take_vx (by omega), wsm_app, vtsTo, vtsTo_wsm f vs k (by omega)]
    simp [wsm]
theorem vts_wsm (f : List Int → Bool) (vs : List Vt) : vts f vs = wsm (fun v => if f v.r then v.c else 0) vs := by
  unfold vts
  rw [vtsTo_wsm f vs _ (Nat.le_refl _), List.take_length]
theorem kem_wsm (vs : List Vt) (r : List Int) : kem vs r = wsm (fun v => v.c * swaps v.r r) vs := by
  have key : ∀ k, k ≤ vs.length → kemTo vs r k = wsm (fun v => v.c * swaps v.r r) (vs.take k) := by
    intro k
    induction k with
    | zero => intro _; rfl
    | succ k ih =>
      intro h
      rw [take_vx (by omega), wsm_app, kemTo, ih (by omega)]
      simp [wsm]
  unfold kem
  rw [key _ (Nat.le_refl _), List.take_length]

/-- a valid ranking: every candidate has a place -/
structure RkF (m : Int) (r : List Int) : Prop where
  len : (r.length : Int) = m
  pl : ∀ a : Int, 0 ≤ a → a < m → 0 ≤ place r a ∧ place r a < m
  inj : ∀ a b : Int, 0 ≤ a → a < m → place r a = place r b → a = b
  nd : r.Nodup
  bd : ∀ x ∈ r, 0 ≤ x ∧ x < m
theorem rkF_of {m : Int} {r : List Int} (h : rankOk m r = true) : RkF m r := by
  have f := rankOk_facts h
  have hl : (r.length : Int) = m := f.2.2.1
  refine ⟨hl, fun a h0 h1 => ?_, fun a b h0 h1 e => ?_, rank_nodup h, fun x hx => ?_⟩
  · have h2 := place_mem.2 (rkIn h h0 h1)
    have := (place_bd r a).2
    omega
  · have h2 := place_mem.2 (rkIn h h0 h1)
    rw [← place_at h2, e]
    exact place_at (by omega)
  · obtain ⟨i, hi, rfl⟩ := List.getElem_of_mem hx
    have := f.2.2.2 i hi
    rw [ix_lt hi] at this
    exact this

/-- the score of candidate i, with w for the weights of places -/
def sco (w : List Int) (vs : List Vt) (i : Nat) : Int := wsm (fun v => v.c * ix w (place v.r (i : Int)).toNat) vs
theorem scV_ix {c : Int} {r w xs : List Int} (hn : r.Nodup) (hr : ∀ x ∈ r, 0 ≤ x ∧ x < xs.length) (i : Nat) (hi : i < xs.length) :
    ∀ j, j ≤ r.length → ix (scV c r w xs j) i = ix xs i + (if 0 ≤ place r (i : Int) ∧ place r (i : Int) < j then c * ix w (place r (i : Int)).toNat else 0)
  | 0, _ => by
    rw [scV, if_neg (by omega)]; omega
  | j + 1, h => by
    have hb := hr _ (ix_mem (xs := r) (j := j) (by omega))
    have ih := scV_ix (c := c) (w := w) hn hr i hi j (by omega)
    have hp := plIx hn (i := j) (by omega)
    rw [scV, ix_setP (by rw [scV_len]; omega)]
    by_cases e : i = (ix r j).toNat
    · have e2 : (i : Int) = ix r j := by omega
      rw [if_pos e, ← e, ih, e2, hp, if_neg (by omega), if_pos (by omega)]
      simp
    · rw [if_neg e, ih]
      have hne : place r (i : Int) ≠ j := by
        intro e2
        have := place_at (xs := r) (a := (i : Int)) (by omega)
        rw [e2] at this
        simp at this
        omega
      congr 1
      by_cases h1 : 0 ≤ place r (i : Int) ∧ place r (i : Int) < j
      · rw [if_pos h1, if_pos (by omega)]
      · rw [if_neg h1, if_neg (by omega)]
theorem scTo_ix {m : Int} {vs : List Vt} (F : PF m vs) (w : List Int) (i : Nat) (hi : i < m.toNat) : ∀ k, k ≤ vs.length → ix (scTo vs w m.toNat k) i = sco w (vs.take k) i
  | 0, _ => by rw [scTo, ix_lt (by simpa using hi)]; simp [sco, wsm]
  | k + 1, h => by
    have hv := vx_mem (vs := vs) (j := k) (by omega)
    have R := rkF_of (F.r _ hv)
    have ih := scTo_ix F w i hi k (by omega)
    have hl := R.len
    have hp := R.pl (i : Int) (by omega) (by omega)
    rw [scTo, scV_ix R.nd (fun x hx => by have := R.bd x hx; rw [scTo_len]; omega) i (by rw [scTo_len]; exact hi) _ (Nat.le_refl _), ih, if_pos (by omega)]
    unfold sco
    rw [take_vx (by omega), wsm_app]
    simp [wsm]
theorem scores_ix {m : Int} {vs : List Vt} (F : PF m vs) (w : List Int) {i : Nat} (hi : i < m.toNat) : ix (scores m vs w) i = sco w vs i := by
  unfold scores
  rw [scTo_ix F w i hi _ (Nat.le_refl _), List.take_length]

/-- j is the first of the greatest -/
structure Top (xs : List Int) (j : Nat) : Prop where
  lt : j < xs.length
  le : ∀ i, i < xs.length → ix xs i ≤ ix xs j
  first : ∀ i, i < j → ix xs i < ix xs j
theorem Top.uniq {xs : List Int} {i j : Nat} (h1 : Top xs i) (h2 : Top xs j) : i = j := by
  rcases Nat.lt_trichotomy i j with h | h | h
  · have := h1.le j h2.lt; have := h2.first i h; omega
  · exact h
  · have := h2.le i h1.lt; have := h1.first j h; omega
theorem greatTo_first (xs : List Int) : ∀ k, (greatTo xs k = [] ∧ ∀ i, i < k → ix xs i ≠ lmax xs) ∨ ∃ j, j < k ∧ ix xs j = lmax xs ∧ (∀ i, i < j → ix xs i ≠ lmax xs) ∧ ∃ t, greatTo xs k = (j : Int) :: t
  | 0 => .inl ⟨rfl, fun i h => absurd h (by omega)⟩
  | k + 1 => by
    rcases greatTo_first xs k with ⟨h1, h2⟩ | ⟨j, h1, h2, h3, t, h4⟩
    · by_cases e : ix xs k = lmax xs
      · exact .inr ⟨k, by omega, e, h2, [], by rw [greatTo, h1, if_pos e]; rfl⟩
      · exact .inl ⟨by rw [greatTo, h1, if_neg e]; rfl, fun i hi => by
          by_cases ei : i = k
          · subst ei; exact e
          · exact h2 i (by omega)⟩
    · exact .inr ⟨j, by omega, h2, h3, t ++ (if ix xs k = lmax xs then [(k : Int)] else []), by rw [greatTo, h4]; rfl⟩
theorem lmax_up {xs : List Int} {j : Nat} (h : j < xs.length) : ix xs j ≤ lmax xs := lmaxTo_ge xs _ j (by omega)
theorem top_some {xs : List Int} (h : 0 < xs.length) : ∃ j, Top xs j ∧ ix (greatest xs) 0 = (j : Int) := by
  rcases greatTo_first xs xs.length with ⟨h1, _⟩ | ⟨j, h1, h2, h3, t, h4⟩
  · have := greatest_pos h
    unfold greatest at this
    rw [h1] at this
    simp at this
  · refine ⟨j, ⟨h1, fun i hi => by rw [h2]; exact lmax_up hi, fun i hi => ?_⟩, ?_⟩
    · have q1 := h3 i hi
      have q2 := lmax_up (xs := xs) (j := i) (by omega)
      rw [h2]; omega
    · unfold greatest
      rw [h4]; rfl
theorem top_is {xs : List Int} {j : Nat} (h : Top xs j) : ix (greatest xs) 0 = (j : Int) := by
  obtain ⟨i, h1, h2⟩ := top_some (xs := xs) (by have := h.lt; omega)
  rw [h2, h1.uniq h]
theorem winner_of {rule m : Int} {vs : List Vt} {T : List Int} (hp : profOk m vs = true) (hT : winnersP rule m vs = T) (h0 : 0 < T.length) : winnerR rule m vs = ix T 0 := by
  unfold winnerR
  rw [winnersR_yes hp, hT, if_neg (by omega)]
theorem winner_top {rule m : Int} {vs : List Vt} {L : List Int} (hp : profOk m vs = true) (hT : winnersP rule m vs = greatest L) (h0 : 0 < L.length) : ∃ j, Top L j ∧ winnerR rule m vs = (j : Int) := by
  obtain ⟨j, h1, h2⟩ := top_some h0
  exact ⟨j, h1, by rw [winner_of hp hT (greatest_pos h0), h2]⟩
/-- what the score rules share -/
structure ScR (rule m : Int) (w : List Int) : Prop where
  is : ∀ vs, profOk m vs = true → winnersP rule m vs = greatest (scores m vs w)
  down : ∀ i j : Nat, i ≤ j → (j : Int) < m → ix w j ≤ ix w i
theorem wts_down {m : Int} {f : Int → Int} (h1 : 1 ≤ m) (h5 : m ≤ 5) (hd : ∀ a b : Int, 0 ≤ a → a ≤ b → f b ≤ f a) (i j : Nat) (hij : i ≤ j) (hj : (j : Int) < m) : ix (wtsOf m f) j ≤ ix (wtsOf m f) i := by
  unfold wtsOf
  rw [inB_15 h1 h5, if_pos rfl, mapTo_ix (by omega), mapTo_ix (by omega)]
  exact hd _ _ (by omega) (by omega)
theorem scoresR_is {m : Int} {vs : List Vt} {w : List Int} (hp : profOk m vs = true) (hw : weightsOk m w = true) : scoresR m vs w = scores m vs w := by
  unfold scoresR; rw [hp, hw]; rfl
theorem scR1 {m : Int} (h1 : 1 ≤ m) (h5 : m ≤ 5) : ScR 1 m (plurW m) :=
  ⟨fun vs hp => by unfold winnersP; rw [if_pos rfl, scoresR_is hp (plur_ok h1 h5)], wts_down h1 h5 fun a b _ _ => by omega⟩
theorem scR2 {m : Int} (h1 : 1 ≤ m) (h5 : m ≤ 5) : ScR 2 m (bordW m) :=
  ⟨fun vs hp => by unfold winnersP; rw [if_neg (by omega), if_pos rfl, scoresR_is hp (bord_ok h1 h5)], wts_down h1 h5 fun a b _ _ => by omega⟩
theorem scR3 {m : Int} (h1 : 1 ≤ m) (h5 : m ≤ 5) : ScR 3 m (vetoW m) :=
  ⟨fun vs hp => by unfold winnersP; rw [if_neg (by omega), if_neg (by omega), if_pos rfl, scoresR_is hp (veto_ok h1 h5)], wts_down h1 h5 fun a b _ _ => by omega⟩
theorem ScR.win {rule m : Int} {w : List Int} {vs : List Vt} (S : ScR rule m w) (hp : profOk m vs = true) :
    ∃ j : Nat, winnerR rule m vs = (j : Int) ∧ (j : Int) < m ∧ (∀ i : Nat, (i : Int) < m → sco w vs i ≤ sco w vs j) ∧ ∀ i : Nat, i < j → sco w vs i < sco w vs j := by
  have F := pf_of hp
  have m1 := F.m1
  have hl := scores_len m vs w
  obtain ⟨j, T, e⟩ := winner_top hp (S.is vs hp) (by rw [hl]; omega)
  have h1 := T.lt
  rw [hl] at h1
  refine ⟨j, e, by omega, fun i hi => ?_, fun i hi => ?_⟩
  · have := T.le i (by rw [hl]; omega)
    rw [scores_ix F w (by omega), scores_ix F w (by omega)] at this
    exact this
  · have := T.first i hi
    rw [scores_ix F w (by omega), scores_ix F w (by omega)] at this
    exact this
theorem ScR.is_win {rule m : Int} {w : List Int} {vs : List Vt} (S : ScR rule m w) (hp : profOk m vs = true) {j : Nat} (hj : (j : Int) < m) (h1 : ∀ i : Nat, (i : Int) < m → sco w vs i ≤ sco w vs j) (h2 : ∀ i : Nat, i < j → sco w vs i < sco w vs j) : winnerR rule m vs = (j : Int) := by
  have F := pf_of hp
  have hl := scores_len m vs w
  have T : Top (scores m vs w) j := ⟨by rw [hl]; omega, fun i hi => by
      rw [hl] at hi
      rw [scores_ix F w (by omega), scores_ix F w (by omega)]
      exact h1 i (by omega), fun i hi => by
      rw [scores_ix F w (by omega), scores_ix F w (by omega)]
      exact h2 i hi⟩
  rw [winner_of hp (S.is vs hp) (greatest_pos (by have := T.lt; omega)), top_is T]
end Go.Proofs.YtaanppihgldeaaaGreatDoor
namespace Go.Proofs.YtaanppihgldeaaaGreatDoor
set_option linter.unusedSimpArgs false
set_option linter.unusedVariables false
set_option linter.unusedVariables false
open Go.RowKit

theorem rank_of {m : Int} {xs : List Int} (h1 : 1 ≤ m) (h5 : m ≤ 5) (hl : (xs.length : Int) = m) (hb : ∀ i, i < xs.length → 0 ≤ ix xs i ∧ ix xs i < m) (hn : ∀ i j, i < j → j < xs.length → ix xs i ≠ ix xs j) : rankOk m xs = true := by
  unfold rankOk
  rw [inB_15 h1 h5, decide_eq_true hl, Bool.true_and, Bool.true_and, rankTo_iff]
  refine fun i hi => ⟨hb i hi, fun hm => ?_⟩
  obtain ⟨j, hj, e⟩ := List.getElem_of_mem hm
  rw [List.length_take] at hj
  rw [List.getElem_take, ← ix_lt] at e
  exact hn j i (by omega) hi e
theorem prof_sub {m : Int} {vs us : List Vt} (hp : profOk m vs = true) (hl : us.length ≤ vs.length) (hs : ∀ v ∈ us, v ∈ vs) : profOk m us = true := by
  unfold profOk at *
  rw [Bool.and_eq_true, Bool.and_eq_true, decide_eq_true_eq, List.all_eq_true] at hp ⊢
  exact ⟨⟨hp.1.1, by omega⟩, fun v hv => hp.2 v (hs v hv)⟩
/-- a goes one place up -/
def raiseL (r : List Int) (a : Int) : List Int := (r.set ((place r a).toNat - 1) (ix r (place r a).toNat)).set (place r a).toNat (ix r ((place r a).toNat - 1))
theorem raise_ix {r : List Int} {a : Int} (h : 1 ≤ place r a) (i : Nat) : ix (raiseL r a) i = if i = (place r a).toNat then ix r ((place r a).toNat - 1) else if i = (place r a).toNat - 1 then a else ix r i := by
  have hb := (place_bd r a).2
  unfold raiseL
  rw [ix_setP (by rw [List.length_set]; omega), ix_setP (by omega), place_at (by omega)]
theorem raise_len (r : List Int) (a : Int) : (raiseL r a).length = r.length := by unfold raiseL; rw [List.length_set, List.length_set]
theorem ix_inj {xs : List Int} (hn : xs.Nodup) {i j : Nat} (hi : i < xs.length) (hj : j < xs.length) (e : ix xs i = ix xs j) : i = j := by
  have h1 := plIx hn hi
  have h2 := plIx hn hj
  rw [e, h2] at h1
  omega
structure RaiseF (m : Int) (r : List Int) (a : Int) : Prop where
  ok : rankOk m (raiseL r a) = true
  pl : ∀ b : Int, 0 ≤ b → b < m → place (raiseL r a) b = if b = a then place r a - 1 else if place r b = place r a - 1 then place r a else place r b
theorem raise_facts {m : Int} {r : List Int} {a : Int} (h : rankOk m r = true) (hp : 1 ≤ place r a) : RaiseF m r a := by
  have R := rkF_of h
  have f := rankOk_facts h
  have hb := (place_bd r a).2
  have ha := place_at (xs := r) (a := a) (by omega)
  have hl := raise_len r a
  obtain ⟨p, hpp⟩ : ∃ p : Nat, place r a = p := ⟨(place r a).toNat, by omega⟩
  have ri := raise_ix (r := r) (a := a) hp
  rw [hpp] at ha hb
  simp only [hpp, Int.toNat_natCast] at ri ha
  have hp1 : 1 ≤ p := by omega
  have hpl : p < r.length := by omega
  have ok : rankOk m (raiseL r a) = true := by
    refine rank_of f.1 f.2.1 (by rw [hl]; exact f.2.2.1) (fun i hi => ?_) (fun i j hij hj e => ?_)
    · rw [ri]
      split
      · exact f.2.2.2 _ (by omega)
      · split
        · rw [← ha]; exact f.2.2.2 _ (by omega)
        · exact f.2.2.2 _ (by omega)
    · rw [hl] at hj
      rw [ri, ri, ← ha] at e
      split at e <;> split at e <;> (try split at e) <;> (try split at e) <;> first
        | omega
        | (have := ix_inj R.nd (by omega) (by omega) e; omega)
  refine ⟨ok, fun b h0 h1 => ?_⟩
  have R' := rkF_of ok
  have hq := R.pl b h0 h1
  have hqa := place_at hq.1
  obtain ⟨q, hqq⟩ : ∃ q : Nat, place r b = q := ⟨(place r b).toNat, by omega⟩
  rw [hqq] at hqa hq
  rw [Int.toNat_natCast] at hqa
  have hlm := R.len
  rw [hpp, hqq]
  have key : ∀ i : Nat, i < r.length → ix (raiseL r a) i = b → place (raiseL r a) b = i := fun i hi e => by
    rw [← e]; exact plIx R'.nd (by rw [hl]; exact hi)
  by_cases e : b = a
  · subst e
    rw [if_pos rfl]
    have := key (p - 1) (by omega) (by rw [ri, if_neg (by omega), if_pos rfl])
    omega
  · have hqp : q ≠ p := by
      rintro rfl
      exact e (by rw [← hqa, ha])
    rw [if_neg e]
    by_cases e2 : q = p - 1
    · have := key p hpl (by rw [ri, if_pos rfl, ← e2, hqa])
      rw [if_pos (by omega), this]
    · have := key q (by omega) (by rw [ri, if_neg hqp, if_neg e2, hqa])
      rw [if_neg (by omega), this]
theorem pref_iff {m : Int} {r : List Int} (R : RkF m r) {b c : Int} (b0 : 0 ≤ b) (b1 : b < m) (c0 : 0 ≤ c) (c1 : c < m) : pref r b c = decide (place r b < place r c) := by
  unfold pref
  rw [decide_eq_true (R.pl b b0 b1).1, decide_eq_true (R.pl c c0 c1).1]; rfl
/-- what support for a changes in the pairs -/
structure MonF (m : Int) (vs us : List Vt) (a : Int) : Prop where
  up : ∀ b : Int, 0 ≤ b → b < m → pairP vs a b ≤ pairP us a b
  dn : ∀ b : Int, 0 ≤ b → b < m → pairP us b a ≤ pairP vs b a
  eq : ∀ b c : Int, 0 ≤ b → b < m → 0 ≤ c → c < m → b ≠ a → c ≠ a → pairP us b c = pairP vs b c
  nv : votersP us = votersP vs
theorem vts_setR {vs : List Vt} {k : Nat} (hk : k < vs.length) (r : List Int) (f : List Int → Bool) : vts f (setR vs k r) = vts f vs - (if f (vx vs k).r then (vx vs k).c else 0) + (if f r then (vx vs k).c else 0) := by
  rw [vts_wsm, vts_wsm]
  unfold setR
  rw [wsm_set _ hk]
theorem mon_raise {m : Int} {vs : List Vt} {k : Nat} {a : Int} (hp : profOk m vs = true) (hk : k < vs.length) (a0 : 0 ≤ a) (a1 : a < m) (h1 : 1 ≤ place (vx vs k).r a) : MonF m vs (setR vs k (raiseL (vx vs k).r a)) a := by
  have F := pf_of hp
  have hv := vx_mem hk
  have hr := F.r _ hv
  have hc := F.c _ hv
  have R := rkF_of hr
  have RF := raise_facts hr h1
  have R' := rkF_of RF.ok
  have pa := RF.pl a a0 a1
  rw [if_pos rfl] at pa
  refine ⟨fun b b0 b1 => ?_, fun b b0 b1 => ?_, fun b c b0 b1 c0 c1 hb hc' => ?_, ?_⟩
  · unfold pairP
    rw [vts_setR hk, pref_iff R a0 a1 b0 b1, pref_iff R' a0 a1 b0 b1, pa]
    have pb := RF.pl b b0 b1
    by_cases h : place (vx vs k).r a < place (vx vs k).r b
    · have e : b ≠ a := by rintro rfl; omega
      rw [if_neg e, if_neg (by omega)] at pb
      rw [decide_eq_true h, decide_eq_true (by omega)]
      simp <;> omega
    · rw [decide_eq_false h]
      simp only [Bool.false_eq_true, if_false]
      split <;> omega
  · unfold pairP
    rw [vts_setR hk, pref_iff R b0 b1 a0 a1, pref_iff R' b0 b1 a0 a1, pa]
    have pb := RF.pl b b0 b1
    by_cases h : place (vx vs k).r b < place (vx vs k).r a
    · rw [decide_eq_true h]
      simp only [if_true]
      split <;> omega
    · have h2 : ¬ place (raiseL (vx vs k).r a) b < place (vx vs k).r a - 1 := by
        rw [pb]
        split
        · omega
        · split <;> omega
      rw [decide_eq_false h, decide_eq_false h2]
      simp
  · unfold pairP
    have pb := RF.pl b b0 b1
    have pc := RF.pl c c0 c1
    rw [if_neg hb] at pb
    rw [if_neg hc'] at pc
    have ib : place (vx vs k).r b ≠ place (vx vs k).r a := fun e => hb (R.inj b a b0 b1 e)
    have ic : place (vx vs k).r c ≠ place (vx vs k).r a := fun e => hc' (R.inj c a c0 c1 e)
    have e : pref (raiseL (vx vs k).r a) b c = pref (vx vs k).r b c := by
      rw [pref_iff R' b0 b1 c0 c1, pref_iff R b0 b1 c0 c1, pb, pc]
      rw [decide_eq_decide]
      split <;> split <;> omega
    rw [vts_setR hk, e]
    omega
  · unfold votersP
    rw [vts_setR hk]; omega
/-- support for the first of the greatest keeps it there -/
theorem top_keep {L K : Nat → Int} {M j : Nat} (h1 : ∀ i, i < M → L i ≤ L j) (h2 : ∀ i, i < j → L i < L j) (hj : j < M) (up : L j ≤ K j) (dn : ∀ i, i < M → i ≠ j → K i ≤ L i) : (∀ i, i < M → K i ≤ K j) ∧ ∀ i, i < j → K i < K j := by
  refine ⟨fun i hi => ?_, fun i hi => ?_⟩
  · by_cases e : i = j
    · subst e; exact Int.le_refl _
    · have := h1 i hi; have := dn i hi e; omega
  · have := h2 i hi; have := dn i (by omega) (by omega); omega
theorem sco_setR {vs : List Vt} {k : Nat} (hk : k < vs.length) (r w : List Int) (i : Nat) : sco w (setR vs k r) i = sco w vs i - (vx vs k).c * ix w (place (vx vs k).r (i : Int)).toNat + (vx vs k).c * ix w (place r (i : Int)).toNat := by
  unfold sco setR
  rw [wsm_set _ hk]
theorem mono_score {rule m : Int} {w : List Int} {vs : List Vt} {k : Nat} (S : ScR rule m w) (hp : profOk m vs = true) (hk : k < vs.length) (h1 : 1 ≤ place (vx vs k).r (winnerR rule m vs)) : winnerR rule m (setR vs k (raiseL (vx vs k).r (winnerR rule m vs))) = winnerR rule m vs := by
  have F := pf_of hp
  have hv := vx_mem hk
  have hr := F.r _ hv
  have hc := F.c _ hv
  obtain ⟨j, e, hj, t1, t2⟩ := S.win hp
  rw [e] at h1 ⊢
  have RF := raise_facts hr h1
  have R := rkF_of hr
  have pj := RF.pl (j : Int) (by omega) hj
  rw [if_pos rfl] at pj
  obtain ⟨k1, k2⟩ := top_keep (L := fun i => sco w vs i) (K := fun i => sco w (setR vs k (raiseL (vx vs k).r (j : Int))) i) (M := m.toNat) (j := j)
    (fun i hi => t1 i (by omega)) t2 (by omega) (by
      show sco w vs j ≤ sco w _ j
      rw [sco_setR hk, pj]
      have q := (R.pl (j : Int) (by omega) hj).2
      have d := S.down (place (vx vs k).r (j : Int) - 1).toNat (place (vx vs k).r (j : Int)).toNat (by omega) (by omega)
      have := Int.mul_le_mul_of_nonneg_left d hc.1
      omega) (fun i hi hij => by
      show sco w _ i ≤ sco w vs i
      rw [sco_setR hk]
      have pi := RF.pl (i : Int) (by omega) (by omega)
      rw [if_neg (by omega)] at pi
      have q := R.pl (i : Int) (by omega) (by omega)
      have q2 := R.pl (j : Int) (by omega) hj
      have d := S.down (place (vx vs k).r (i : Int)).toNat (place (raiseL (vx vs k).r (j : Int)) (i : Int)).toNat (by rw [pi]; split <;> omega) (by rw [pi]; split <;> omega)
      have := Int.mul_le_mul_of_nonneg_left d hc.1
      omega)
  exact S.is_win (setR_ok hp hk RF.ok) hj (fun i hi => k1 i (by omega)) k2
theorem sumN_le {f g : Nat → Int} : ∀ {k : Nat}, (∀ i, i < k → f i ≤ g i) → sumN f k ≤ sumN g k
  | 0, _ => Int.le_refl _
  | k + 1, h => by
    have h1 := sumN_le (k := k) fun i hi => h i (by omega)
    have h2 := h k (by omega)
    rw [sumN, sumN]; omega
theorem minN_le {f g : Nat → Int} {s : Nat} {init : Int} : ∀ {k : Nat}, (∀ i, i < k → i ≠ s → f i ≤ g i) → minN f s init k ≤ minN g s init k
  | 0, _ => Int.le_refl _
  | k + 1, h => by
    have h1 := minN_le (s := s) (init := init) (k := k) fun i hi => h i (by omega)
    rw [minN, minN]
    by_cases e : k = s
    · rw [if_pos e, if_pos e]; exact h1
    · have h2 := h k (by omega) e
      rw [if_neg e, if_neg e]; omega
theorem cmpI_le {a b : Int} (h : a ≤ b) : cmpI a 0 ≤ cmpI b 0 := by
  unfold cmpI
  split <;> split <;> (try split) <;> (try split) <;> omega
theorem win4 {m : Int} {vs : List Vt} (hp : profOk m vs = true) : winnersP 4 m vs = greatest (copeland m vs) := by
  unfold winnersP copelandR
  rw [if_neg (by omega), if_neg (by omega), if_neg (by omega), if_pos rfl, hp]; rfl
theorem win5 {m : Int} {vs : List Vt} (hp : profOk m vs = true) : winnersP 5 m vs = greatest (maximin m vs) := by
  unfold winnersP maximinR
  rw [if_neg (by omega), if_neg (by omega), if_neg (by omega), if_neg (by omega), if_pos rfl, hp]; rfl
theorem mono_list {rule m : Int} {vs us : List Vt} {f g : Nat → Int} (hp : profOk m vs = true) (hq : profOk m us = true) (h1 : winnersP rule m vs = greatest (lfn f m.toNat)) (h2 : winnersP rule m us = greatest (lfn g m.toNat))
    (hm : ∀ a : Nat, winnerR rule m vs = (a : Int) → (a : Int) < m → f a ≤ g a ∧ ∀ i : Nat, (i : Int) < m → i ≠ a → g i ≤ f i) : winnerR rule m us = winnerR rule m vs := by
  have F := pf_of hp
  have m1 := F.m1
  obtain ⟨j, T, e⟩ := winner_top hp h1 (by rw [lfn_len]; omega)
  have hj := T.lt
  rw [lfn_len] at hj
  obtain ⟨u, d⟩ := hm j e (by omega)
  obtain ⟨k1, k2⟩ := top_keep (L := f) (K := g) (M := m.toNat) (j := j) (fun i hi => by
      have := T.le i (by rw [lfn_len]; exact hi)
      rwa [lfn_ix hi, lfn_ix hj] at this) (fun i hi => by
      have := T.first i hi
      rwa [lfn_ix (by omega), lfn_ix hj] at this) hj u (fun i hi hij => d i (by omega) hij)
  have T2 : Top (lfn g m.toNat) j := ⟨by rw [lfn_len]; exact hj, fun i hi => by
      rw [lfn_len] at hi
      rw [lfn_ix hi, lfn_ix hj]; exact k1 i hi, fun i hi => by rw [lfn_ix (by omega), lfn_ix hj]; exact k2 i hi⟩
  rw [winner_of hq h2 (greatest_pos (by rw [lfn_len]; omega)), top_is T2, e]
theorem mono_cop {m : Int} {vs : List Vt} {k : Nat} (hp : profOk m vs = true) (hk : k < vs.length) (h1 : 1 ≤ place (vx vs k).r (winnerR 4 m vs)) : winnerR 4 m (setR vs k (raiseL (vx vs k).r (winnerR 4 m vs))) = winnerR 4 m vs := by
  have hr := (pf_of hp).r _ (vx_mem hk)
  have hq := setR_ok hp hk (raise_facts hr h1).ok
  refine mono_list hp hq (win4 hp) (win4 hq) fun a e ha => ?_
  rw [e] at h1 ⊢
  have Mo := mon_raise hp hk (show (0 : Int) ≤ (a : Int) by omega) ha h1
  have cf : ∀ i b : Nat, b < m.toNat → copF vs i b = cmpI (pairP vs (i : Int) (b : Int) - pairP vs (b : Int) (i : Int)) 0 := fun _ _ _ => rfl
  refine ⟨sumN_le fun b hb => ?_, fun i hi hia => sumN_le fun b hb => ?_⟩
  · have u1 := Mo.up (b : Int) (by omega) (by omega)
    have u2 := Mo.dn (b : Int) (by omega) (by omega)
    exact cmpI_le (show marginP _ _ _ ≤ marginP _ _ _ by unfold marginP; omega)
  · refine cmpI_le (show marginP _ _ _ ≤ marginP _ _ _ from ?_)
    unfold marginP
    by_cases e2 : b = a
    · subst e2
      have u1 := Mo.up (i : Int) (by omega) (by omega)
      have u2 := Mo.dn (i : Int) (by omega) (by omega)
      omega
    · have u1 := Mo.eq (i : Int) (b : Int) (by omega) (by omega) (by omega) (by omega) (by omega) (by omega)
      have u2 := Mo.eq (b : Int) (i : Int) (by omega) (by omega) (by omega) (by omega) (by omega) (by omega)
      omega
theorem mono_max {m : Int} {vs : List Vt} {k : Nat} (hp : profOk m vs = true) (hk : k < vs.length) (h1 : 1 ≤ place (vx vs k).r (winnerR 5 m vs)) : winnerR 5 m (setR vs k (raiseL (vx vs k).r (winnerR 5 m vs))) = winnerR 5 m vs := by
  have hr := (pf_of hp).r _ (vx_mem hk)
  have hq := setR_ok hp hk (raise_facts hr h1).ok
  refine mono_list hp hq (win5 hp) (win5 hq) fun a e ha => ?_
  rw [e] at h1 ⊢
  have Mo := mon_raise hp hk (show (0 : Int) ≤ (a : Int) by omega) ha h1
  rw [Mo.nv]
  refine ⟨minN_le fun b hb hba => ?_, fun i hi hia => minN_le fun b hb hbi => ?_⟩
  · exact Mo.up (b : Int) (by omega) (by omega)
  · show pairP _ _ _ ≤ pairP _ _ _
    by_cases e2 : b = a
    · subst e2
      exact Mo.dn (i : Int) (by omega) (by omega)
    · exact Int.le_of_eq (Mo.eq (i : Int) (b : Int) (by omega) (by omega) (by omega) (by omega) (by omega) (by omega))
/-- nobody gains by staying away -/
theorem abstain_score {rule m : Int} {w : List Int} {vs : List Vt} {k : Nat} (S : ScR rule m w) (hp : profOk m vs = true) (hk : k < vs.length) : pref (vx vs k).r (winnerR rule m (vs.take k ++ vs.drop (k + 1))) (winnerR rule m vs) = false := by
  have F := pf_of hp
  have hv := vx_mem hk
  have R := rkF_of (F.r _ hv)
  have hc := F.c _ hv
  have hq : profOk m (vs.take k ++ vs.drop (k + 1)) = true := prof_sub hp (by simp; omega) fun v hv => by
    rw [List.mem_append] at hv
    exact hv.elim List.mem_of_mem_take List.mem_of_mem_drop
  obtain ⟨j, e, hj, t1, t2⟩ := S.win hp
  obtain ⟨i, e', hi, s1, s2⟩ := S.win hq
  rw [e, e']
  cases hpr : pref (vx vs k).r (i : Int) (j : Int)
  · rfl
  · exfalso
    rw [pref_iff R (by omega) hi (by omega) hj, decide_eq_true_eq] at hpr
    have q1 := R.pl (i : Int) (by omega) hi
    have q2 := R.pl (j : Int) (by omega) hj
    have d := S.down (place (vx vs k).r (i : Int)).toNat (place (vx vs k).r (j : Int)).toNat (by omega) (by omega)
    have dm := Int.mul_le_mul_of_nonneg_left d hc.1
    have a1 := s1 j hj
    have a2 := t1 i hi
    have a3 := t2 i
    have a4 := s2 j
    have er : ∀ x, sco w (vs.take k ++ vs.drop (k + 1)) x = sco w vs x - (vx vs k).c * ix w (place (vx vs k).r (x : Int)).toNat := fun x => by unfold sco; rw [wsm_erase _ hk]
    rw [er, er] at a1 a4
    rcases Nat.lt_trichotomy i j with h | h | h
    · have := a3 h; omega
    · subst h; omega
    · have := a4 h; omega
/-- whom two parts elect the whole elects -/
theorem split_score {rule m : Int} {w : List Int} {vs : List Vt} {k : Nat} (S : ScR rule m w) (hp : profOk m vs = true) (he : winnerR rule m (vs.take k) = winnerR rule m (vs.drop k)) : winnerR rule m (vs.take k) = winnerR rule m vs := by
  have h1 : profOk m (vs.take k) = true := prof_sub hp (by simp; omega) fun v hv => List.mem_of_mem_take hv
  have h2 : profOk m (vs.drop k) = true := prof_sub hp (by simp) fun v hv => List.mem_of_mem_drop hv
  obtain ⟨j, e, hj, t1, t2⟩ := S.win h1
  obtain ⟨i, e', hi, s1, s2⟩ := S.win h2
  rw [e, e'] at he
  obtain rfl : j = i := by omega
  rw [e]
  refine (S.is_win hp hj (fun x hx => ?_) (fun x hx => ?_)).symm
  · have := t1 x hx; have := s1 x hx
    unfold sco at *
    rw [wsm_split _ vs k, wsm_split _ vs k]; omega
  · have := t2 x hx; have := s2 x hx
    unfold sco at *
    rw [wsm_split _ vs k, wsm_split _ vs k]; omega
end Go.Proofs.YtaanppihgldeaaaGreatDoor
