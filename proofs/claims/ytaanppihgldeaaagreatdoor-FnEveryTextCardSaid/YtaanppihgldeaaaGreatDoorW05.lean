/- Rows appended to rows: plain lemmas on worlds. No program is walked here. Votes of the call's own: each with a ranking of its own. Profiles, the program's side: beats, those, only. -/
import Derived.Test.YtaanppihgldeaaaGreatDoorW02
import Derived.Test.YtaanppihgldeaaaGreatDoorW04
import Derived.Deep.RegionLaw
namespace Go.Proofs.YtaanppihgldeaaaGreatDoor
set_option linter.unusedSimpArgs false
set_option linter.unusedVariables false
set_option linter.unusedVariables false
open Go.RowKit

/-- two slice values do not lie in one block -/
def Apart (u u' : Value) : Prop := u.ownBlock = none ∨ u.ownBlock ≠ u'.ownBlock
theorem Apart.symm {u u' : Value} (h : Apart u u') : Apart u' u := by
  unfold Apart at *
  cases hx : u'.ownBlock with
  | none => exact .inl rfl
  | some k =>
    rcases h with h | h
    · rw [h]; right; simp
    · right; rw [hx] at h; exact Ne.symm h
/-- the slices us own the rows xss, in blocks from lo on, below hi, no two in one block -/
def RowsV (w : World) (lo hi : Nat) (us : List Value) (xss : List (List Int)) : Prop :=
  us.length = xss.length ∧ (∀ i, i < xss.length → ∃ u, us[i]? = some u ∧ OwnI w lo hi u (rx xss i)) ∧ us.Pairwise Apart

section
variable {w w' : World} {A : Option Addr} {n c : Nat} {xss yss : List (List Int)} {us vs : List Value} {v : Value} {lo hi l2 h2 : Nat}

theorem ownR_iff : OwnR w lo hi v xss ↔ ∃ vs : List Value, w.ownsRow lo 27 1 v xss.length vs ∧ (∀ k, v.ownBlock = some k → k < hi) ∧ RowsV w lo hi vs xss := by
  constructor
  · rintro ⟨vs, h1, h2, h3, h4⟩
    refine ⟨vs, h1, h2, by have := h1.1; omega, h3, ?_⟩
    rw [List.pairwise_iff_getElem]
    intro i j hi hj hij
    exact h4 i j _ _ hij (List.getElem?_eq_getElem hi) (List.getElem?_eq_getElem hj)
  · rintro ⟨vs, h1, h2, h3, h4, h5⟩
    refine ⟨vs, h1, h2, h4, fun i j u u' hij e1 e2 => ?_⟩
    rw [List.pairwise_iff_getElem] at h5
    obtain ⟨hi, e1⟩ := List.getElem?_eq_some_iff.1 e1
    obtain ⟨hj, e2⟩ := List.getElem?_eq_some_iff.1 e2
    rw [← e1, ← e2]
    exact h5 i j hi hj hij

theorem rx_append_left {i : Nat} (h : i < xss.length) : rx (xss ++ yss) i = rx xss i := by unfold rx; simp [List.getD, List.getElem?_append_left h]
theorem rx_append_right {i : Nat} (h : xss.length ≤ i) : rx (xss ++ yss) i = rx yss (i - xss.length) := by unfold rx; simp [List.getD, List.getElem?_append_right h]

theorem RowsV.mono {lo' hi' : Nat} (h : RowsV w lo hi us xss) (hl : lo' ≤ lo) (hh : hi ≤ hi') : RowsV w lo' hi' us xss :=
  ⟨h.1, fun i hi => by obtain ⟨u, e, ho⟩ := h.2.1 i hi; exact ⟨u, e, ho.mono hl hh⟩, h.2.2⟩

theorem RowsV.append (h : RowsV w lo hi us xss) (g : RowsV w l2 h2 vs yss) (hd : hi ≤ l2) : RowsV w (min lo l2) (max hi h2) (us ++ vs) (xss ++ yss) := by
  refine ⟨by simp [h.1, g.1], fun i hi => ?_, ?_⟩
  · by_cases e : i < xss.length
    · obtain ⟨u, e1, ho⟩ := h.2.1 i e
      exact ⟨u, by rw [List.getElem?_append_left (by rw [h.1]; exact e)]; exact e1, by rw [rx_append_left e]; exact ho.mono (Nat.min_le_left _ _) (Nat.le_max_left _ _)⟩
    · rw [List.length_append] at hi
      obtain ⟨u, e1, ho⟩ := g.2.1 (i - xss.length) (by omega)
      exact ⟨u, by rw [List.getElem?_append_right (by rw [h.1]; omega), h.1]; exact e1, by rw [rx_append_right (by omega)]; exact ho.mono (Nat.min_le_right _ _) (Nat.le_max_right _ _)⟩
  · rw [List.pairwise_append]
    refine ⟨h.2.2, g.2.2, fun a ha b hb => ?_⟩
    obtain ⟨i, hi, rfl⟩ := List.getElem_of_mem ha
    obtain ⟨j, hj, rfl⟩ := List.getElem_of_mem hb
    obtain ⟨u, e1, o1⟩ := h.2.1 i (by rw [← h.1]; exact hi)
    obtain ⟨u', e2, o2⟩ := g.2.1 j (by rw [← g.1]; exact hj)
    rw [List.getElem?_eq_getElem hi] at e1
    rw [List.getElem?_eq_getElem hj] at e2
    cases e1
    cases e2
    cases hx : (us[i]).ownBlock with
    | none => exact .inl hx
    | some k =>
      right
      intro e
      have a1 := (o1.block_ge k hx).2
      have a2 := (o2.block_ge k (by rw [← e]; exact hx)).1
      omega

theorem RowsV.take (h : RowsV w lo hi us xss) (k : Nat) : RowsV w lo hi (us.take k) (xss.take k) := by
  refine ⟨by simp [h.1], fun i hi => ?_, h.2.2.sublist (List.take_sublist _ _)⟩
  rw [List.length_take] at hi
  obtain ⟨u, e, ho⟩ := h.2.1 i (by omega)
  refine ⟨u, by rw [List.getElem?_take_of_lt (by omega)]; exact e, ?_⟩
  have : rx (xss.take k) i = rx xss i := by unfold rx; simp only [List.getD]; rw [List.getElem?_take_of_lt (by omega)]
  rw [this]
  exact ho

theorem RowsV.of_grown {row : Option Nat} (h : RowsV w lo hi us xss) (hg : w.grownBy w' row) (hr : ∀ k ys, row = some k → ∀ u, OwnI w lo hi u ys → u.ownBlock ≠ some k) : RowsV w' lo hi us xss := by
  refine ⟨h.1, fun i hi => ?_, h.2.2⟩
  obtain ⟨u, e, ho⟩ := h.2.1 i hi
  refine ⟨u, e, ⟨ho.1.1, ?_⟩, ho.2⟩
  rcases ho.1.2 with h0 | ⟨g', cap, cur, hv, hgb, hg', r⟩
  · exact .inl h0
  · refine .inr ⟨g', cap, cur, hv, hgb, ?_, r⟩
    rw [hg.block g' (Array.getElem?_eq_some_iff.1 hg').1]
    · exact hg'
    · intro e'
      exact hr g' _ e'.symm u ho (by rw [hv]; rfl)

/-- a block that holds slices holds no numbers -/
theorem no_mix {w : World} {v : Value} {n : Nat} {vs : List Value} {b : Nat} (h1 : w.ownsRow b 27 1 v n vs) {u : Value} {l h : Nat} {ys : List Int} (ho : OwnI w l h u ys) {k : Nat} (e : v.ownBlock = some k) : u.ownBlock ≠ some k := by
  rcases h1.2 with ⟨rfl, _⟩ | ⟨g, cap, cur, rfl, h0, hg, r⟩
  · simp [Value.ownBlock] at e
  · simp [Value.ownBlock] at e
    subst e
    exact ne_block (lo := b) (n := n) (c := cap) (vs := vs) ⟨h1.1, .inr ⟨g, cap, cur, rfl, h0, hg, r⟩⟩ ho

theorem rowsV_one {u : Value} {xs : List Int} (h : OwnI w lo hi u xs) : RowsV w lo hi [u] [xs] := by
  refine ⟨rfl, fun i hi => ?_, by simp⟩
  match i, hi with
  | 0, _ => exact ⟨u, rfl, h⟩

/-- the cells of a row's slices -/
theorem OwnR.rowsV {A : Option Addr} {c : Nat} (h : OwnR w lo hi (.slice A n c) xss) : ∃ us, RowsV w lo hi us xss ∧ (∀ j, j < n → ∃ b o, A = some ⟨b, o, none⟩ ∧ w.cell? ⟨b, o + j, none⟩ = us[j]?) := by
  obtain rfl := h.num.1
  obtain ⟨vs, h1, h2, h3⟩ := ownR_iff.1 h
  refine ⟨vs, h3, fun j hj => ?_⟩
  obtain ⟨g, rfl, _⟩ := h.head (by omega)
  exact ⟨g, 0, rfl, by rw [Nat.zero_add]; exact World.ownsRow.cellAt h1 j (by omega)⟩

theorem OwnR.grownBy {row : Option Nat} (h : OwnR w lo hi v xss) (hg : w.grownBy w' row) (hr : ∀ k, row = some k → k < lo ∨ hi ≤ k) : OwnR w' lo hi v xss :=
  h.keep fun k h1 h2 hs => hg.block k hs (fun e => by have := hr k e.symm; omega)
theorem OwnI.grownBy {row : Option Nat} {xs : List Int} (h : OwnI w lo hi v xs) (hg : w.grownBy w' row) (hr : ∀ k, row = some k → k < lo ∨ hi ≤ k) : OwnI w' lo hi v xs :=
  h.keep fun k h1 h2 hs => hg.block k hs (fun e => by have := hr k e.symm; omega)
end

theorem RowsV.belowW {w w' : World} {lo hi : Nat} {us : List Value} {xss : List (List Int)} (h : RowsV w lo hi us xss) (hb : Below w.heap.size w w') : RowsV w' lo hi us xss :=
  ⟨h.1, fun i hi => by obtain ⟨u, e, ho⟩ := h.2.1 i hi; exact ⟨u, e, ho.belowW hb⟩, h.2.2⟩
theorem RowsV.only {w w' : World} {lo hi l2 h2 : Nat} {us : List Value} {xss : List (List Int)} (h : RowsV w lo hi us xss) (ho : Only l2 h2 w w') (hd : hi ≤ l2 ∨ h2 ≤ lo) : RowsV w' lo hi us xss :=
  ⟨h.1, fun i hi => by obtain ⟨u, e, hu⟩ := h.2.1 i hi; exact ⟨u, e, hu.only ho hd⟩, h.2.2⟩
theorem RowsV.nil {w : World} {lo hi : Nat} : RowsV w lo hi [] [] := ⟨rfl, fun i h => absurd h (by simp), by simp⟩
theorem RowsV.tight {w : World} {lo hi : Nat} {us : List Value} {xss : List (List Int)} (h : RowsV w lo hi us xss) : RowsV w lo w.heap.size us xss :=
  ⟨h.1, fun i hi => by
    obtain ⟨u, e, ho⟩ := h.2.1 i hi
    exact ⟨u, e, ho.1, fun k e => (World.ownsRow.lt ho.1 k e).2⟩, h.2.2⟩
/-- some of the rows, in their order -/
theorem RowsV.sub {w : World} {lo hi : Nat} {us vs : List Value} {xss yss : List (List Int)} (h : RowsV w lo hi us xss) (hl : vs.length = yss.length) (hs : (vs.zip yss).Sublist (us.zip xss)) : RowsV w lo hi vs yss := by
  have e1 : (vs.zip yss).map Prod.fst = vs := List.map_fst_zip (by omega)
  have e2 : (us.zip xss).map Prod.fst = us := List.map_fst_zip (by rw [h.1]; exact Nat.le_refl _)
  refine ⟨hl, fun i hi => ?_, ?_⟩
  · have hi1 : i < vs.length := by omega
    have hm : (vs[i], yss[i]) ∈ vs.zip yss := List.mem_iff_getElem.2 ⟨i, by simp [hl]; omega, by simp⟩
    obtain ⟨j, hj, e⟩ := List.mem_iff_getElem.1 (hs.subset hm)
    have hj2 : j < us.length ∧ j < xss.length := by simp at hj; omega
    simp at e
    obtain ⟨u, e3, ho⟩ := h.2.1 j hj2.2
    rw [List.getElem?_eq_getElem hj2.1] at e3
    cases e3
    refine ⟨vs[i], by simp [hi1], ?_⟩
    rw [← e.1, rx_lt hi, ← e.2, ← rx_lt hj2.2]
    exact ho
  · have hp := h.2.2
    rw [← e2] at hp
    rw [← e1]
    exact hp.sublist (hs.map _)

section
variable {ops : Array Oper} {rest : List Oper} {o : Oper} {a : Act} {Q : Exit → Act → World → Prop}

/-- 'out = append(out, rows...)', out nil or the call's own -/
theorem wpList_append_rowsV (w : World) (hg : o.guard = none) (s x : Operand) (hop : o.op = Op.call { callee := Callee.builtin Builtin.append, args := #[s, x], argTypes := #[98, 98] })
    (lo n c : Nat) (A : Option Addr) (vs : List Value) (hs : a.eval s = .slice A n c) (h1 : w.ownsRow lo 27 1 (.slice A n c) n vs)
    (B : Option Addr) (m cc : Nat) (us : List Value) (zss : List (List Int)) (l2 h2 : Nat) (hx : a.eval x = .slice B m cc) (hcells : ∀ j, j < m → ∃ b o, B = some ⟨b, o, none⟩ ∧ w.cell? ⟨b, o + j, none⟩ = us[j]?)
    (hV : RowsV w l2 h2 (vs ++ us) zss) (hm : us.length = m) (hn : n + m ≤ 1000000000000) (hlw : lo ≤ w.heap.size)
    (hK : ∀ A'' c'' w', w'.ownsRow lo 27 1 (.slice A'' (n + m) c'') (n + m) (vs ++ us) → RowsV w' l2 h2 (vs ++ us) zss → w.grownBy w' (Value.slice A n c).ownBlock → ((Value.slice A'' (n + m) c'').ownBlock = (Value.slice A n c).ownBlock ∨ (Value.slice A'' (n + m) c'').ownBlock = some w.heap.size) → wpList Tryz.prog ops Q rest (a.put o.dst (.slice A'' (n + m) c'')) w') :
    wpList Tryz.prog ops Q (o :: rest) a w := by
  obtain ⟨i0, hi0, hz0, hz1, hz2⟩ := info_parts infoR
  subst hm
  have hvs : vs.length = n := by have := h1.1; omega
  have hone : ∀ u ∈ us, u.oneCell' = true := by
    intro u hu
    obtain ⟨j, hj, rfl⟩ := List.getElem_of_mem hu
    have hlen := hV.1
    rw [List.length_append] at hlen
    obtain ⟨u', e1, ho⟩ := hV.2.1 (vs.length + j) (by omega)
    rw [List.getElem?_append_right (by omega), show vs.length + j - vs.length = j by omega, List.getElem?_eq_getElem hj] at e1
    cases e1
    obtain ⟨A2, c2, e2, _⟩ := ho.len
    rw [e2]
    rfl
  have hfin : ∀ v' w', w'.ownsRow lo 27 1 v' (n + us.length) (vs ++ us) → w.grownBy w' (Value.slice A n c).ownBlock → RowsV w' l2 h2 (vs ++ us) zss := fun v' w' _ hgrow =>
    hV.of_grown hgrow fun k ys e u ho => no_mix h1 ho e
  have hform : ∀ (v' : Value) (w' : World), w'.ownsRow lo 27 1 v' (n + us.length) (vs ++ us) → ∃ A'' c'', v' = .slice A'' (n + us.length) c'' := fun v' w' ho => by
    rcases ho.2 with ⟨rfl, h0⟩ | ⟨g, cap, cur, rfl, _⟩
    · exact ⟨none, 0, by rw [h0]⟩
    · exact ⟨_, _, rfl⟩
  cases B with
  | none =>
    have hu0 : us = [] := by
      rcases Nat.eq_zero_or_pos us.length with h0 | h0
      · exact List.eq_nil_of_length_eq_zero h0
      · obtain ⟨b, o', e, _⟩ := hcells 0 h0
        cases e
    subst hu0
    refine wpList_plain hg fun K hK' => ?_
    have hrun := run_append_of_nil (P := Tryz.prog) w lo 98 o.type 27 i0 1 Tryz.underlying98 hi0 _ n _ h1 cc
    unfold Oper.wp
    simp [execOp, hop, resolve, invoke, builtin, hs, hx, hrun, Result.andThen]
    refine hK' _ _ ?_
    have hgr : w.grownBy w (Value.slice A n c).ownBlock := ⟨rfl, rfl, rfl, Nat.le_refl _, fun _ _ _ => rfl⟩
    have h6 := hfin (.slice A n c) w (by simpa using h1) hgr
    have h5 := hK A c w (by simpa using h1) h6 hgr (.inl rfl)
    simpa using h5
  | some ad =>
    refine wpList_append_own_at w hg s x 98 hop lo 27 i0 (.slice none 0 0) 1 24 Tryz.underlying98 hi0 hz0 hz1 hz2 rfl (by decide) _ n _ hs h1 ad us.length cc us hx (by simp) ?_ hone (by unfold maxLen; omega) (by omega) (by omega) ?_
    · intro j u hj
      have hjl := (List.getElem?_eq_some_iff.1 hj).1
      obtain ⟨b, o', e, hc⟩ := hcells j hjl
      cases e
      rw [Addr.add_lit, hc, hj]
    · intro v' w' hown' hgrow _ hat
      obtain ⟨A'', c'', rfl⟩ := hform v' w' hown'
      exact hK A'' c'' w' hown' (hfin _ w' hown' hgrow) hgrow hat

/-- the same; the rows lie behind all of out's -/
theorem wpList_append_rows (w : World) (hg : o.guard = none) (s x : Operand) (hop : o.op = Op.call { callee := Callee.builtin Builtin.append, args := #[s, x], argTypes := #[98, 98] })
    (lo hi n c : Nat) (A : Option Addr) (xss : List (List Int)) (hs : a.eval s = .slice A n c) (hown : OwnR w lo hi (.slice A n c) xss)
    (B : Option Addr) (m cc : Nat) (us : List Value) (yss : List (List Int)) (l2 h2 : Nat) (hx : a.eval x = .slice B m cc) (hcells : ∀ j, j < m → ∃ b o, B = some ⟨b, o, none⟩ ∧ w.cell? ⟨b, o + j, none⟩ = us[j]?)
    (hus : RowsV w l2 h2 us yss) (hm : yss.length = m) (hl2 : hi ≤ l2) (hn : n + m ≤ 1000000000000) (hlw : lo ≤ w.heap.size) (hlo : lo ≤ l2)
    (hK : ∀ A'' c'' w', OwnR w' lo w'.heap.size (.slice A'' (n + m) c'') (xss ++ yss) → w.grownBy w' (Value.slice A n c).ownBlock → ((Value.slice A'' (n + m) c'').ownBlock = (Value.slice A n c).ownBlock ∨ (Value.slice A'' (n + m) c'').ownBlock = some w.heap.size) → wpList Tryz.prog ops Q rest (a.put o.dst (.slice A'' (n + m) c'')) w') :
    wpList Tryz.prog ops Q (o :: rest) a w := by
  obtain rfl := hown.num.1
  subst hm
  obtain ⟨vs, h1, h2', h3⟩ := ownR_iff.1 hown
  have hboth : RowsV w lo w.heap.size (vs ++ us) (xss ++ yss) := by
    have hb := h3.append hus hl2
    rw [Nat.min_eq_left hlo] at hb
    exact hb.tight
  refine wpList_append_rowsV w hg s x hop lo xss.length c A vs hs h1 B yss.length cc us (xss ++ yss) lo w.heap.size hx hcells hboth hus.1 hn hlw ?_
  intro A'' c'' w' ho hr hgr hat
  refine hK A'' c'' w' (ownR_iff.2 ⟨vs ++ us, by rw [List.length_append]; exact ho, fun k e => (World.ownsRow.lt ho k e).2, hr.mono (Nat.le_refl _) hgr.size⟩) hgr hat
end

theorem OwnR.block_ge {w : World} {lo hi : Nat} {v : Value} {xss : List (List Int)} (h : OwnR w lo hi v xss) : ∀ k, v.ownBlock = some k → lo ≤ k ∧ k < hi := by
  obtain ⟨vs, h1, h2, _⟩ := h
  exact fun k e => ⟨(World.ownsRow.lt h1 k e).1, h2 k e⟩
theorem Only.grownBy {lo hi : Nat} {w w' w'' : World} {row : Option Nat} (h : Only lo hi w w') (g : w'.grownBy w'' row) (hr : ∀ k, row = some k → w.heap.size ≤ k) : Only lo hi w w'' :=
  ⟨g.os.trans h.os, g.tape.trans h.tape, g.output.trans h.output, Nat.le_trans h.size g.size, fun k hs hk => (g.block k (Nat.lt_of_lt_of_le hs h.size) (fun e => by have := hr k e.symm; omega)).trans (h.block k hs hk)⟩
theorem grown_trans {w w' w'' : World} {row row' : Option Nat} (h : w.grownBy w' row) (g : w'.grownBy w'' row') (hr : ∀ j, row' = some j → row = some j ∨ w.heap.size ≤ j) : w.grownBy w'' row :=
  ⟨g.os.trans h.os, g.tape.trans h.tape, g.output.trans h.output, Nat.le_trans h.size g.size, fun k hs hk => (g.block k (Nat.lt_of_lt_of_le hs h.size) (fun e => by
    rcases hr k e.symm with h1 | h1
    · exact hk h1.symm
    · omega)).trans (h.block k hs hk)⟩
theorem grown_below {w w' w'' : World} {row : Option Nat} (h : w.grownBy w' row) (g : Below w'.heap.size w' w'') : w.grownBy w'' row :=
  ⟨g.os.trans h.os, g.tape.trans h.tape, g.output.trans h.output, Nat.le_trans h.size g.size, fun k hs hk => (g.block k (Nat.lt_of_lt_of_le hs h.size)).trans (h.block k hs hk)⟩
theorem grown_refl (w : World) (row : Option Nat) : w.grownBy w row := ⟨rfl, rfl, rfl, Nat.le_refl _, fun _ _ _ => rfl⟩
theorem ownsRow_below {w w' : World} {lo n : Nat} {v : Value} {vs : List Value} (h : w.ownsRow lo 27 1 v n vs) (hb : Below w.heap.size w w') : w'.ownsRow lo 27 1 v n vs := by
  refine ⟨h.1, ?_⟩
  rcases h.2 with h0 | ⟨g, cap, cur, hv, hgb, hg, r⟩
  · exact .inl h0
  · exact .inr ⟨g, cap, cur, hv, hgb, by rw [hb.block g (Array.getElem?_eq_some_iff.1 hg).1]; exact hg, r⟩
theorem below_of_below {w w' w'' : World} {row : Option Nat} (h : Below w.heap.size w w') (g : w'.grownBy w'' row) (hr : ∀ j, row = some j → w.heap.size ≤ j) : Below w.heap.size w w'' :=
  ⟨g.os.trans h.os, g.tape.trans h.tape, g.output.trans h.output, Nat.le_trans h.size g.size, fun k hk => (g.block k (Nat.lt_of_lt_of_le hk h.size) (fun e => by have := hr k e.symm; omega)).trans (h.block k hk)⟩
theorem RowsV.grownBy {w w' : World} {lo hi : Nat} {us : List Value} {xss : List (List Int)} {row : Option Nat} (h : RowsV w lo hi us xss) (hg : w.grownBy w' row) (hr : ∀ k, row = some k → k < lo ∨ hi ≤ k) : RowsV w' lo hi us xss :=
  ⟨h.1, fun i hi => by obtain ⟨u, e, ho⟩ := h.2.1 i hi; exact ⟨u, e, ho.grownBy hg hr⟩, h.2.2⟩

/-- of the slices us of the rows ys, the first k: those whose row passes -/
def pick (p : List Int → Bool) (us : List Value) (ys : List (List Int)) (k : Nat) : List (Value × List Int) := ((us.zip ys).take k).filter (fun x => p x.2)
def pickU (p : List Int → Bool) (us : List Value) (ys : List (List Int)) (k : Nat) : List Value := (pick p us ys k).map Prod.fst
def pickY (p : List Int → Bool) (us : List Value) (ys : List (List Int)) (k : Nat) : List (List Int) := (pick p us ys k).map Prod.snd
section
variable {p : List Int → Bool} {us : List Value} {ys : List (List Int)} {k : Nat} {u : Value}
theorem pick_len : (pickU p us ys k).length = (pickY p us ys k).length := by simp [pickU, pickY]
theorem pickY_len : (pickY p us ys k).length ≤ k := by
  simp only [pickY, pick, List.length_map]
  exact Nat.le_trans (List.length_filter_le _ _) (by rw [List.length_take]; exact Nat.min_le_left _ _)
theorem pick_zero : pickU p us ys 0 = [] ∧ pickY p us ys 0 = [] := by simp [pickU, pickY, pick]
theorem zip_take_succ (hk : k < ys.length) (hu : us[k]? = some u) : (us.zip ys).take (k + 1) = (us.zip ys).take k ++ [(u, rx ys k)] := by
  obtain ⟨h1, h2⟩ := List.getElem?_eq_some_iff.1 hu
  have h3 : k < (us.zip ys).length := by simp; omega
  rw [List.take_succ_eq_append_getElem h3]
  congr 2
  simp [h2, rx_lt hk]
theorem pick_yes (hk : k < ys.length) (hu : us[k]? = some u) (h : p (rx ys k) = true) : pickU p us ys (k + 1) = pickU p us ys k ++ [u] ∧ pickY p us ys (k + 1) = pickY p us ys k ++ [rx ys k] := by
  simp only [pickU, pickY, pick, zip_take_succ hk hu, List.filter_append, List.map_append]
  simp [h]
theorem pick_no (hk : k < ys.length) (hu : us[k]? = some u) (h : p (rx ys k) = false) : pickU p us ys (k + 1) = pickU p us ys k ∧ pickY p us ys (k + 1) = pickY p us ys k := by
  simp only [pickU, pickY, pick, zip_take_succ hk hu, List.filter_append, List.map_append]
  simp [h]
theorem pick_all (h : us.length = ys.length) : pickY p us ys ys.length = ys.filter p := by
  have e : (us.zip ys).take ys.length = us.zip ys := List.take_of_length_le (by simp; omega)
  simp only [pickY, pick, e]
  have h2 : (us.zip ys).map Prod.snd = ys := List.map_snd_zip (by omega)
  conv => rhs; rw [← h2]
  rw [List.filter_map]
  rfl
theorem zip_pair (L : List (Value × List Int)) : (L.map Prod.fst).zip (L.map Prod.snd) = L := by
  induction L with
  | nil => rfl
  | cons a L ih => simp [ih]
theorem RowsV.pick {w : World} {lo hi : Nat} (h : RowsV w lo hi us ys) (p : List Int → Bool) (k : Nat) : RowsV w lo hi (pickU p us ys k) (pickY p us ys k) := by
  refine h.sub pick_len ?_
  unfold pickU pickY
  rw [zip_pair]
  exact (List.filter_sublist).trans (List.take_sublist _ _)
end
/-- a row of one slice, written out -/
theorem OwnR.lit1 {w : World} {lo hi : Nat} {u : Value} {xs : List Int} (h : OwnI w lo hi u xs) (hl : lo ≤ w.heap.size) (hh : hi ≤ w.heap.size) : OwnR (w.alloc (.cells #[u] 27)) lo (w.heap.size + 1) (.slice (some ⟨w.heap.size, 0, none⟩) 1 1) [xs] :=
  ownR_iff.2 ⟨[u], World.ownsRow_lit (e := 27) (size := 1) (base := lo) w #[u] 1 hl (by unfold maxLen; omega) rfl, fun k e => by simp [Value.ownBlock] at e; omega, (rowsV_one (h.alloc _)).mono (Nat.le_refl _) (by omega)⟩
end Go.Proofs.YtaanppihgldeaaaGreatDoor
namespace Go.Proofs.YtaanppihgldeaaaGreatDoor
set_option linter.unusedSimpArgs false
set_option linter.unusedVariables false
set_option linter.unusedVariables false
open Go.RowKit

theorem infoV : (Tryz.prog.info? 44).map (fun i => (i.zero, i.size, i.bytes)) = some (some (.agg #[.slice none 0 0, .int .i64 0]), 2, 32) := by kernel_rfl
/-- a vote: its ranking's slice and what it is -/
abbrev VE := Value × Vt
def flatV (Z : List VE) : List Value := Z.flatMap fun p => [p.1, .int .i64 p.2.c]
theorem flatV_len : ∀ Z : List VE, (flatV Z).length = Z.length * 2
  | [] => rfl
  | p :: Z => by
    have := flatV_len Z
    unfold flatV at this ⊢
    rw [List.flatMap_cons, List.length_append, this, List.length_cons]
    simp; omega
theorem flatV_append (Z Y : List VE) : flatV (Z ++ Y) = flatV Z ++ flatV Y := by unfold flatV; rw [List.flatMap_append]
theorem flatV_at {Z : List VE} {j : Nat} (h : j < Z.length) : (flatV Z)[j * 2]? = some Z[j].1 ∧ (flatV Z)[j * 2 + 1]? = some (.int .i64 Z[j].2.c) := by
  induction Z generalizing j with
  | nil => simp at h
  | cons p Z ih =>
    have e : flatV (p :: Z) = p.1 :: .int .i64 p.2.c :: flatV Z := rfl
    rw [e]
    cases j with
    | zero => exact ⟨rfl, rfl⟩
    | succ j =>
      have := ih (j := j) (by simpa using h)
      rw [show (j + 1) * 2 = j * 2 + 1 + 1 by omega, show j * 2 + 1 + 1 + 1 = j * 2 + 1 + 2 by omega]
      exact this
theorem flatV_set {Z : List VE} {j : Nat} (h : j < Z.length) (u : Value) (r : List Int) : (flatV Z).set (j * 2) u = flatV (Z.set j (u, ⟨r, Z[j].2.c⟩)) := by
  induction Z generalizing j with
  | nil => simp at h
  | cons p Z ih =>
    have e : flatV (p :: Z) = p.1 :: .int .i64 p.2.c :: flatV Z := rfl
    rw [e]
    cases j with
    | zero => rfl
    | succ j =>
      have := ih (j := j) (by simpa using h)
      rw [show (j + 1) * 2 = j * 2 + 1 + 1 by omega, List.set_cons_succ, List.set_cons_succ, this]
      rfl
/-- v is votes of the call's own: each owns its ranking; all blocks lie from lo on, below hi; no two rankings share a block -/
def OwnV (w : World) (lo hi : Nat) (v : Value) (vs : List Vt) : Prop :=
  ∃ Z : List VE, Z.map Prod.snd = vs ∧ w.ownsRow lo 44 2 v Z.length (flatV Z) ∧ (∀ k, v.ownBlock = some k → k < hi) ∧ (∀ p ∈ Z, OwnI w lo hi p.1 p.2.r) ∧ Z.Pairwise (fun p q => Apart p.1 q.1)
section
variable {w w' : World} {A : Option Addr} {n c : Nat} {vs : List Vt} {v u : Value} {lo hi B : Nat} {Z : List VE}
theorem OwnV.nil (w : World) (lo hi : Nat) : OwnV w lo hi (.slice none 0 0) [] :=
  ⟨[], rfl, World.ownsRow_nil _ _ _ _, fun k h => by simp [Value.ownBlock] at h, fun p h => by simp at h, List.Pairwise.nil⟩
theorem OwnV.keep (h : OwnV w lo hi v vs) (hf : ∀ k, lo ≤ k → k < hi → k < w.heap.size → w'.heap[k]? = w.heap[k]?) : OwnV w' lo hi v vs := by
  obtain ⟨Z, h0, h1, h2, h3, h4⟩ := h
  refine ⟨Z, h0, ⟨h1.1, ?_⟩, h2, fun p hp => (h3 p hp).keep hf, h4⟩
  rcases h1.2 with h0 | ⟨g, cap, cur, hv, hgb, hg, r⟩
  · exact .inl h0
  · exact .inr ⟨g, cap, cur, hv, hgb, by rw [hf g hgb (h2 g (by rw [hv]; rfl)) (Array.getElem?_eq_some_iff.1 hg).1]; exact hg, r⟩
theorem OwnV.belowW (h : OwnV w lo hi v vs) (hb : Below w.heap.size w w') : OwnV w' lo hi v vs := h.keep fun k _ _ hs => hb.block k hs
theorem OwnV.only {l2 h2 : Nat} (h : OwnV w lo hi v vs) (ho : Only l2 h2 w w') (hd : hi ≤ l2 ∨ h2 ≤ lo) : OwnV w' lo hi v vs := h.keep fun k h1 h2 hs => ho.block k hs (by omega)
theorem OwnV.alloc (h : OwnV w lo hi v vs) (o : Obj) : OwnV (w.alloc o) lo hi v vs := h.belowW ((Below.refl _ _).alloc (Nat.le_refl _) o)
theorem OwnV.mono {lo' hi' : Nat} (h : OwnV w lo hi v vs) (hl : lo' ≤ lo) (hh : hi ≤ hi') : OwnV w lo' hi' v vs := by
  obtain ⟨Z, h0, h1, h2, h3, h4⟩ := h
  refine ⟨Z, h0, ⟨h1.1, ?_⟩, fun k hk => by have := h2 k hk; omega, fun p hp => (h3 p hp).mono hl hh, h4⟩
  rcases h1.2 with h0 | ⟨g, cap, cur, hv, hgb, r⟩
  · exact .inl h0
  · exact .inr ⟨g, cap, cur, hv, by omega, r⟩
theorem OwnV.len (h : OwnV w lo hi v vs) : ∃ A c, v = .slice A vs.length c ∧ vs.length ≤ c := by
  obtain ⟨Z, rfl, h1, _⟩ := h
  rw [List.length_map]
  rcases h1.2 with ⟨rfl, h0⟩ | ⟨g, cap, cur, rfl, _, _, hc, _⟩
  · exact ⟨none, 0, by rw [h0], by omega⟩
  · exact ⟨_, _, rfl, hc⟩
theorem OwnV.num (h : OwnV w lo hi (.slice A n c) vs) : vs.length = n ∧ n ≤ c := by
  obtain ⟨A', c', e, hc⟩ := h.len
  cases e
  exact ⟨rfl, hc⟩
theorem OwnV.head (h : OwnV w lo hi (.slice A n c) vs) (hn : 0 < n) : ∃ g, A = some ⟨g, 0, none⟩ ∧ lo ≤ g ∧ g < hi ∧ g < w.heap.size := by
  obtain rfl := h.num.1
  obtain ⟨Z, rfl, h1, h2, _⟩ := h
  rw [List.length_map] at hn h1 h2
  rcases h1.2 with ⟨_, h0⟩ | ⟨g, cap, cur, hv, hb, hg, hc, _⟩
  · omega
  · cases hv
    exact ⟨g, rfl, hb, h2 g rfl, (Array.getElem?_eq_some_iff.1 hg).1⟩
theorem OwnV.at_ (h : OwnV w lo hi (.slice A n c) vs) : VotesAt w A n vs := by
  obtain rfl := h.num.1
  have hh := fun hn => h.head hn
  obtain ⟨Z, rfl, h1, h2, h3, h4⟩ := h
  refine ⟨rfl, fun hn => ?_⟩
  obtain ⟨g, rfl, _⟩ := hh hn
  rw [List.length_map] at h1 hn ⊢
  refine ⟨g, 0, rfl, fun j hj => ?_⟩
  obtain ⟨a1, a2⟩ := flatV_at hj
  have c1 := World.ownsRow.cellAt h1 (j * 2) (by omega)
  have c2 := World.ownsRow.cellAt h1 (j * 2 + 1) (by omega)
  rw [a1] at c1
  rw [a2] at c2
  have ho := h3 _ (List.getElem_mem hj)
  have ev : vx (Z.map Prod.snd) j = Z[j].2 := by rw [vx_lt (by simpa using hj)]; simp
  rw [ev]
  obtain ⟨A', c', e, hcc⟩ := ho.len
  rw [e] at c1 ho
  exact ⟨A', _, c', by rw [Nat.zero_add]; exact c1, by rw [Nat.zero_add]; exact c2, hcc, ho.at_⟩
/-- the votes' block and a ranking's differ -/
theorem ne_blockV {g n c l2 h2 : Nat} {xs : List Value} {r : List Int} (h1 : w.ownsRow lo 44 2 (.slice (some ⟨g, 0, none⟩) n c) n xs) (h3 : OwnI w l2 h2 u r) : u.ownBlock ≠ some g := by
  rcases h1.2 with ⟨e, _⟩ | ⟨g', cap, cur, e, _, hg, _⟩
  · cases e
  · cases e
    rcases h3.1.2 with ⟨rfl, _⟩ | ⟨g2, cap2, cur2, rfl, _, hg2, _⟩
    · simp [Value.ownBlock]
    · intro e2
      simp [Value.ownBlock] at e2
      subst e2
      rw [hg] at hg2
      simp at hg2
/-- what an append leaves -/
theorem OwnV.grown (h : OwnV w lo hi (.slice A n c) vs) {l2 h2 : Nat} {r : List Int} {cnt : Int} (hu : OwnI w l2 h2 u r) (hl2 : hi ≤ l2) (hh2 : h2 ≤ w.heap.size) (hbase : lo ≤ hi)
    (hZ : ∀ Z : List VE, Z.map Prod.snd = vs → w.ownsRow lo 44 2 (.slice A n c) n (flatV Z) → ∃ v', w'.ownsRow lo 44 2 v' (n + 1) (flatV Z ++ [u, .int .i64 cnt]) ∧ w.grownBy w' (Value.slice A n c).ownBlock ∧ v' = v) :
    OwnV w' lo w'.heap.size v (vs ++ [⟨r, cnt⟩]) ∧ Only lo hi w w' := by
  obtain rfl := h.num.1
  obtain ⟨Z, rfl, h1, h2', h3, h4⟩ := h
  rw [List.length_map] at *
  obtain ⟨v', o1, hgrow, rfl⟩ := hZ Z rfl h1
  have hge : ∀ k, (Value.slice A Z.length c).ownBlock = some k → lo ≤ k ∧ k < hi := fun k e => ⟨(World.ownsRow.lt h1 k e).1, h2' k e⟩
  have hu' : ∀ {l h : Nat} {y : Value} {ys : List Int}, OwnI w l h y ys → OwnI w' l h y ys := fun {l h y ys} ho => by
    refine ⟨⟨ho.1.1, ?_⟩, ho.2⟩
    rcases ho.1.2 with h0 | ⟨g', cap, cur, hv, hgb, hg', r⟩
    · exact .inl h0
    · refine .inr ⟨g', cap, cur, hv, hgb, ?_, r⟩
      rw [hgrow.block g' (Array.getElem?_eq_some_iff.1 hg').1 ?_]
      · exact hg'
      · intro e
        rcases h1.2 with ⟨e0, _⟩ | ⟨g, cap1, cur1, e0, _, hg1, _⟩
        · rw [e0] at e; simp [Value.ownBlock] at e
        · have hne := ne_blockV (by rw [← e0]; exact h1) ho
          rw [hv] at hne
          rw [e0] at e
          exact hne e
  refine ⟨⟨Z ++ [(u, ⟨r, cnt⟩)], by simp, ?_, fun k e => (World.ownsRow.lt o1 k e).2, fun p hp => ?_, ?_⟩, Only.of_grown hgrow hge⟩
  · rw [List.length_append, flatV_append]
    exact o1
  · rw [List.mem_append, List.mem_singleton] at hp
    rcases hp with hp | rfl
    · have ho := h3 p hp
      have : OwnI w lo w.heap.size p.1 p.2.r := ⟨ho.1, fun k e => (World.ownsRow.lt ho.1 k e).2⟩
      exact (hu' this).mono (Nat.le_refl _) hgrow.size
    · exact (hu' hu).mono (by omega) (Nat.le_trans hh2 hgrow.size)
  · rw [List.pairwise_append]
    refine ⟨h4, by simp, fun p hp q hq => ?_⟩
    rw [List.mem_singleton] at hq
    subst hq
    have ho := h3 p hp
    cases hx : p.1.ownBlock with
    | none => exact .inl hx
    | some k1 =>
      right
      rw [hx]
      intro e4
      have a1 := (ho.block_ge k1 hx).2
      have a2 := (hu.block_ge k1 e4.symm).1
      omega
end
section
variable {ops : Array Oper} {o : Oper} {a : Act} {Q : Exit → Act → World → Prop}
/-- 'votes = append(votes, Vote{..})' inside a region that draws -/
theorem step_append_V {K : Act → World → Prop} {E : Prop} (w : World) (hgd : o.guard = none) (s x : Operand) (hop : o.op = Op.call { callee := Callee.builtin Builtin.append, args := #[s, x], argTypes := #[22, 22] })
    (lo hi n c : Nat) (A : Option Addr) (vs : List Vt) (hs : a.eval s = .slice A n c) (hown : OwnV w lo hi (.slice A n c) vs)
    (A2 : Option Addr) (m2 c2 : Nat) (r : List Int) (cnt : Int) (l2 h2 : Nat) (hu : OwnI w l2 h2 (.slice A2 m2 c2) r) (hl2 : hi ≤ l2) (hh2 : h2 ≤ w.heap.size)
    (b cc : Nat) (hx : a.eval x = .slice (some ⟨b, 0, none⟩) 1 cc) (hc0 : w.cell? ⟨b, 0, none⟩ = some (.slice A2 m2 c2)) (hc1 : w.cell? ⟨b, 1, none⟩ = some (.int .i64 cnt)) (hn : n ≤ 1099511627776) (hbase : lo ≤ hi) (hlw : lo ≤ w.heap.size)
    (hK : ∀ A'' c'' w', OwnV w' lo w'.heap.size (.slice A'' (n + 1) c'') (vs ++ [⟨r, cnt⟩]) → Only lo hi w w' → K (a.put o.dst (.slice A'' (n + 1) c'')) w') :
    if Region.wanted o (yielded ops a.tmps) = true then Oper.wp Tryz.prog o a w K Q else E := by
  have hw : Region.wanted o (yielded ops a.tmps) = true := by simp [Region.wanted, hgd]
  rw [if_pos hw]
  obtain ⟨i0, hi0, hz0, hz1, hz2⟩ := info_parts infoV
  obtain rfl := hown.num.1
  have hZ0 := hown
  obtain ⟨Z, hz, h1, _⟩ := hZ0
  have hzl : Z.length = vs.length := by rw [← hz, List.length_map]
  rw [hzl] at h1
  obtain ⟨v', w', hr, o1, hgrow, _, _⟩ := run_append_own_at (P := Tryz.prog) w lo 22 o.type 44 i0 (.agg #[.slice none 0 0, .int .i64 0]) 2 32 Tryz.underlying22 hi0 hz0 hz1 hz2 (by decide) (by decide) _ vs.length _ h1 ⟨b, 0, none⟩ 1 cc [.slice A2 m2 c2, .int .i64 cnt] rfl
    (fun j u hj => by
      match j, hj with
      | 0, hj => simp at hj; subst hj; simpa [Addr.add] using hc0
      | 1, hj => simp at hj; subst hj; simpa [Addr.add] using hc1) (fun u hu => by simp at hu; rcases hu with rfl | rfl <;> rfl) (by unfold maxLen; omega) (by omega) hlw
  have hg : OwnV w' lo w'.heap.size v' (vs ++ [⟨r, cnt⟩]) ∧ Only lo hi w w' := by
    refine OwnV.grown hown hu hl2 hh2 hbase fun Y hY hYo => ?_
    have hYZ : flatV Y = flatV Z := by
      have a1 := hYo.2
      have b1 := h1.2
      have l1 := hYo.1
      have l2 := h1.1
      rcases a1 with ⟨e1, e2⟩ | ⟨g1, cap1, cur1, hv1, _, hg1, _, _, _, ht1⟩
      · rw [e2] at l1 l2
        rw [List.eq_nil_of_length_eq_zero (by omega : (flatV Y).length = 0), List.eq_nil_of_length_eq_zero (by omega : (flatV Z).length = 0)]
      · rcases b1 with ⟨e1, e2⟩ | ⟨g2, cap2, cur2, hv2, _, hg2, _, _, _, ht2⟩
        · rw [e1] at hv1; cases hv1
        · rw [hv1] at hv2
          cases hv2
          rw [hg1] at hg2
          simp at hg2
          rw [← ht1, ← ht2, hg2]
    rw [hYZ]
    exact ⟨v', o1, hgrow, rfl⟩
  obtain ⟨A', c', e, _⟩ := hg.1.len
  rw [List.length_append] at e
  subst e
  unfold Oper.wp execOp
  simp only [hop, resolve, invoke, builtin, Sem.run_bind, Sem.run_pure, Result.andThen_ok, List.map_toArray, List.map_cons, List.map_nil, hs, hx, hr]
  exact hK A' c' w' hg.1 hg.2
end
/-- vote k with another ranking -/
def setR (vs : List Vt) (k : Nat) (r : List Int) : List Vt := vs.set k ⟨r, (vx vs k).c⟩
theorem setR_len (vs : List Vt) (k : Nat) (r : List Int) : (setR vs k r).length = vs.length := by simp [setR]
theorem setR_mem {vs : List Vt} {k : Nat} {r : List Int} {v : Vt} (h : v ∈ setR vs k r) : v ∈ vs ∨ v = ⟨r, (vx vs k).c⟩ := by
  unfold setR at h
  rcases List.mem_or_eq_of_mem_set h with h | h
  · exact .inl h
  · exact .inr h
theorem OwnV.cells {w : World} {lo hi g n c : Nat} {vs : List Vt} (h : OwnV w lo hi (.slice (some ⟨g, 0, none⟩) n c) vs) (j : Nat) (hj : j < n) :
    (∃ u, w.cell? ⟨g, j * 2, none⟩ = some u) ∧ w.frozen? ⟨g, j * 2, none⟩ = false := by
  obtain rfl := h.num.1
  obtain ⟨Z, rfl, h1, _⟩ := h
  rw [List.length_map] at hj h1
  have c1 := World.ownsRow.cellAt h1 (j * 2) (by omega)
  rw [(flatV_at hj).1] at c1
  exact ⟨⟨_, c1⟩, World.ownsRow.frozenAt h1 (j * 2)⟩
/-- another ranking, made since, is stored in vote k -/
theorem OwnV.stored {w : World} {lo hi H g n c l2 h2 : Nat} {vs : List Vt} {u : Value} {r : List Int} (h : OwnV w lo hi (.slice (some ⟨g, 0, none⟩) n c) vs) (k : Nat) (hk : k < n) (hu : OwnI w l2 h2 u r) (hl2 : hi ≤ l2) (hh2 : h2 ≤ H) (hlo : lo ≤ hi) (hhH : hi ≤ H) :
    OwnV (w.setCell ⟨g, k * 2, none⟩ u) lo H (.slice (some ⟨g, 0, none⟩) n c) (setR vs k r) ∧ Only g (g + 1) w (w.setCell ⟨g, k * 2, none⟩ u) := by
  obtain rfl := h.num.1
  obtain ⟨Z, rfl, h1, h2', h3, h4⟩ := h
  rw [List.length_map] at hk h1
  have hst := World.ownsRow.stored h1 (k * 2) u
  have hkeep : ∀ {l h : Nat} {x : Value} {ys : List Int}, OwnI w l h x ys → OwnI (w.setCell ⟨g, k * 2, none⟩ u) l h x ys := fun {l h x ys} ho => by
    refine ⟨⟨ho.1.1, ?_⟩, ho.2⟩
    have hne := ne_blockV h1 ho
    rcases ho.1.2 with h0 | ⟨g', cap, cur, hv, hgb, hg, r⟩
    · exact .inl h0
    · exact .inr ⟨g', cap, cur, hv, hgb, by rw [Below.heap_setCell _ _ _ _ (by rintro rfl; exact hne (by rw [hv]; rfl))]; exact hg, r⟩
  have hvx : vx (Z.map Prod.snd) k = Z[k].2 := by rw [vx_lt (by simpa using hk)]; simp
  refine ⟨⟨Z.set k (u, ⟨r, Z[k].2.c⟩), ?_, ?_, fun j e => ?_, fun p hp => ?_, ?_⟩, Only.of_grown hst.2 fun j e => by cases e; omega⟩
  · rw [List.map_set, setR, hvx]
  · rw [List.length_set, List.length_map, ← flatV_set hk]
    exact hst.1
  · have := h2' j (by rw [List.length_map]; exact e)
    omega
  · rcases List.mem_or_eq_of_mem_set hp with hp | rfl
    · exact (hkeep (h3 p hp)).mono (Nat.le_refl _) hhH
    · exact (hkeep hu).mono (by omega) hh2
  · rw [List.pairwise_iff_getElem] at h4 ⊢
    intro i j hi hj hij
    rw [List.length_set] at hi hj
    have key : ∀ q, q < Z.length → ∀ hq : q < Z.length, Apart (Z[q]).1 u := fun q _ hq => by
      have ho := h3 _ (List.getElem_mem hq)
      cases hx : (Z[q]).1.ownBlock with
      | none => exact .inl hx
      | some k1 =>
        right
        rw [hx]
        intro e4
        have a1 := (ho.block_ge k1 hx).2
        have a2 := (hu.block_ge k1 e4.symm).1
        omega
    simp only [List.getElem_set]
    by_cases e1 : k = i
    · rw [if_pos e1, if_neg (by omega)]
      exact (key j hj hj).symm
    · rw [if_neg e1]
      by_cases e2 : k = j
      · rw [if_pos e2]; exact key i hi hi
      · rw [if_neg e2]; exact h4 i j hi hj hij
end Go.Proofs.YtaanppihgldeaaaGreatDoor
namespace Go.Proofs.YtaanppihgldeaaaGreatDoor
set_option linter.unusedSimpArgs false
set_option linter.unusedVariables false
set_option linter.unusedVariables false
open Go.RowKit

theorem implBeats (m : Int) (A : Option Addr) (n c : Nat) (vs : List Vt) (a b : Int) (w : World) (h : VotesAt w A n vs) (F : PF m vs) :
    Calls Tryz.prog 54 #[.agg #[.int .i64 m, .slice A n c], .int .i64 a, .int .i64 b] w fun e w' => e = .returned (.bool (beatsP vs a b)) ∧ Below w.heap.size w w' := by
  obtain rfl := h.len
  have hB := alloc_below w (.cells #[.int .i64 m, .slice A vs.length c] 24)
  obtain ⟨x0, x1⟩ := PBox.new w m A vs.length c 24 rfl
  replace h := h.below hB
  generalize hw0 : w.alloc (.cells #[.int .i64 m, .slice A vs.length c] 24) = w0 at *
  have K := Lib.hid (implMargin m A vs.length c vs a b _ h F)
  unfold beatsP
  go_enter Tryz.func54, Tryz.ntmps54
  go_wp2_with fail
  (with_reducible refine (K.out).mono ?_)
  rintro e w1 ⟨rfl, b1⟩
  replace hB := hB.trans (b1.mono hB.size)
  clear b1
  go_wp2
  go_ret
  exact ⟨rfl, hB⟩
/-- the numbers below k for which p holds with each other one below m -/
def thoseTo (m : Nat) (p : Int → Int → Bool) : Nat → List Int
  | 0 => []
  | k + 1 => thoseTo m p k ++ (if allN (fun b => (k == b) || p (k : Int) (b : Int)) m then [(k : Int)] else [])
theorem thoseTo_len (m : Nat) (p : Int → Int → Bool) : ∀ k, (thoseTo m p k).length ≤ k
  | 0 => by simp [thoseTo]
  | k + 1 => by have := thoseTo_len m p k; rw [thoseTo]; split <;> simp <;> omega
def thoseP (m : Int) (p : Int → Int → Bool) : List Int := thoseTo m.toNat p m.toNat
def thoseR (m : Int) (vs : List Vt) (p : Int → Int → Bool) : List Int := if profOk m vs then thoseP m p else []
set_option maxHeartbeats 1000000 in
theorem implThose (g : Nat) (lb : Array Value) (p : Int → Int → Bool) (m : Int) (A : Option Addr) (n c : Nat) (vs : List Vt) (w : World) (h : VotesAt w A n vs) (hn : n ≤ 1048576) (hx : ∀ v ∈ vs, v.r.length ≤ 1048576)
    (hen : ∀ (args : Array Value) (w : World), (callFunc g args).run Tryz.prog w = .ok (.enter g args) w)
    (hg : profOk m vs = true → ∀ (a b : Nat) W, (a : Int) < m → (b : Int) < m → a ≠ b → Below w.heap.size w W → Calls Tryz.prog g (#[.int .i64 (a : Int), .int .i64 (b : Int)] ++ lb) W fun e W' => e = .returned (.bool (p (a : Int) (b : Int))) ∧ Below W.heap.size W W') :
    Calls Tryz.prog 95 #[.agg #[.int .i64 m, .slice A n c], .func (.func g) #[] lb] w fun e w' => ∃ A' c', e = .returned (.slice A' (thoseR m vs p).length c') ∧ OwnI w' w.heap.size w'.heap.size (.slice A' (thoseR m vs p).length c') (thoseR m vs p) ∧ Below w.heap.size w w' := by
  obtain rfl := h.len
  have hB := alloc_below w (.cells #[.int .i64 m, .slice A vs.length c] 24)
  obtain ⟨x0, x1⟩ := PBox.new w m A vs.length c 24 rfl
  replace h := h.below hB
  generalize hw0 : w.alloc (.cells #[.int .i64 m, .slice A vs.length c] 24) = w0 at *
  have K := Lib.hid (implProfileOk m A vs.length c vs _ h hn hx)
  clear hx
  unfold thoseR
  cases hp : profOk m vs
  · rw [hp] at K
    simp only [Bool.false_eq_true, if_false, List.length_nil]
    clear hg
    go_enter Tryz.func95, Tryz.ntmps95
    go_wp2_with fail
    (with_reducible refine (K.out).mono ?_)
    rintro e w1 ⟨rfl, b1⟩
    replace hB := hB.trans (b1.mono hB.size)
    clear b1
    go_wp2
    go_ret
    exact ⟨_, _, rfl, OwnI.nil _ _ _, hB⟩
  rw [hp] at K
  simp only [if_true]
  have HG := Lib.hid (hg hp)
  clear hg
  have F := pf_of hp
  obtain ⟨M, hM⟩ : ∃ M : Nat, m = (M : Int) := ⟨m.toNat, by have := F.m1; omega⟩
  have M5 : M ≤ 5 := by have := F.m5; omega
  clear F
  subst hM
  unfold thoseP
  rw [Int.toNat_natCast]
  obtain ⟨T, hT⟩ : ∃ T, thoseTo M p M = T := ⟨_, rfl⟩
  rw [hT]
  go_enter Tryz.func95, Tryz.ntmps95
  go_wp2_with fail
  (with_reducible refine (K.out).mono ?_)
  rintro e w1 ⟨rfl, b1⟩
  replace x0 := cell_carry b1 x0
  replace x1 := cell_carry b1 x1
  replace hB := hB.trans (b1.mono hB.size)
  clear b1
  clear K
  go_wp2

  go_loopw [5, 6, 7, 8, 14] (fun v _ _ _ i wr => ∃ (k : Nat) (A' : Option Addr) (c' : Nat), k ≤ M ∧ i = .int .i64 k ∧ v = .slice A' (thoseTo M p k).length c' ∧ OwnI wr w1.heap.size wr.heap.size (.slice A' (thoseTo M p k).length c') (thoseTo M p k) ∧ Below w1.heap.size w1 wr) (fun _ _ _ _ i _ => M - (intOf i).toNat)
  case atStart => exact ⟨0, none, 0, Nat.zero_le _, rfl, rfl, OwnI.nil _ _ _, Below.refl _ _⟩
  case round =>
    obtain ⟨k, A1, c1, hk, rfl, rfl, ho, hb⟩ := hrel
    have hl := thoseTo_len M p k
    by_cases hlt : k < M
    · have x0' := cell_carry hb x0
      have HS : Hid (thoseTo M p (k + 1) = thoseTo M p k ++ (if allN (fun b => (k == b) || p (k : Int) (b : Int)) M then [(k : Int)] else [])) := rfl
      generalize thoseTo M p k = xs at *
      obtain ⟨wo, rfl⟩ : ∃ wo, wo = wr := ⟨_, rfl⟩
      go_wp2
      clear x0'
      go_loopw [7, 8, 19] (fun v _ i wr => ∃ (j : Nat), j ≤ M ∧ i = .int .i64 j ∧ v = .bool (allN (fun b => (k == b) || p (k : Int) (b : Int)) j) ∧ Below wo.heap.size wo wr) (fun _ _ i _ => M - (intOf i).toNat)
      case atStart => exact ⟨0, Nat.zero_le _, rfl, rfl, Below.refl _ _⟩
      case round =>
        obtain ⟨j, hj, rfl, rfl, hb2⟩ := hrel
        by_cases hlj : j < M
        · have HT : Hid (allN (fun b => (k == b) || p (k : Int) (b : Int)) (j + 1) = (allN (fun b => (k == b) || p (k : Int) (b : Int)) j && ((k == j) || p (k : Int) (j : Int)))) := rfl
          generalize allN (fun b => (k == b) || p (k : Int) (b : Int)) j = q at *
          cases q
          · go_wp2
            go_roundw
            case rel => exact ⟨j + 1, by omega, by go_num, by rw [HT.out]; rfl, hb2⟩
            case measure => simp [intOf]; omega
          by_cases hkj : k = j
          · subst hkj
            go_wp2
            go_roundw
            case rel => exact ⟨k + 1, by omega, by go_num, by rw [HT.out]; simp, hb2⟩
            case measure => simp [intOf]; omega
          · have e1 : ((k : Int) == (j : Int)) = false := by rw [beq_eq_false_iff_ne]; omega
            have e2 : (k == j) = false := by rw [beq_eq_false_iff_ne]; exact hkj
            have KK := Lib.hid (HG.out k j wr (by omega) (by omega) hkj (hB.trans ((hb.trans (hb2.mono hb.size)).mono hB.size)))
            have E2 := Lib.hid e2
            clear e2
            go_wp2_with fail
            (with_reducible refine KK.out.mono ?_)
            rintro e w3 ⟨rfl, b3⟩
            replace hb2 := hb2.trans (b3.mono hb2.size)
            clear b3 KK
            go_wp2
            go_roundw
            case rel => exact ⟨j + 1, by omega, by go_num, by rw [HT.out, E2.out]; simp, hb2⟩
            case measure => simp [intOf]; omega
        · obtain rfl : j = M := by omega
          replace ho := (ho.belowW hb2).mono (Nat.le_refl _) hb2.size
          replace hb := hb.trans (hb2.mono hb.size)
          have z1 := hB.size
          have z2 := hb.size
          clear hb2
          generalize allN (fun b => (k == b) || p (k : Int) (b : Int)) j = q at *
          cases q
          · go_wp2
            go_roundw
            case rel => exact ⟨k + 1, A1, c1, by omega, by go_num, by rw [HS.out]; simp, by rw [HS.out]; simpa using ho, hb⟩
            case measure => simp [intOf]; omega
          · go_wp2_with (at_builtin; refine wpList_append_int _ rfl _ _ rfl (w1.heap.size) _ (xs.length) _ _ _ rfl (ho.alloc _) ((k : Int)) _ 1 rfl (new_cell _ _ _ rfl) (by omega) (by simp; omega) (by simp; omega) ?_)
            intro A4 c4 w4 o4 on4
            replace hb := (hb.alloc (Nat.le_trans hb.size (by simp)) _).trans (on4.toBelow (by omega) (by simp; omega))
            go_wp2
            go_roundw
            case rel => exact ⟨k + 1, A4, c4, by omega, by go_num, by rw [HS.out]; simp, by rw [HS.out]; simpa using o4, hb⟩
            case measure => simp [intOf]; omega
    · obtain rfl : k = M := by omega
      rw [hT] at ho ⊢
      have hB2 := hB.trans (hb.mono hB.size)
      go_wp2
      go_ret
      exact ⟨_, _, rfl, ho.mono hB.size (Nat.le_refl _), hB2⟩
end Go.Proofs.YtaanppihgldeaaaGreatDoor
