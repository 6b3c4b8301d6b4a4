/- Rows appended to rows: plain lemmas on worlds. No program is walked here. -/
import Derived.Test.YtcjnjnegaoihoaaGreatW07
namespace Go.Proofs.YtcjnjnegaoihoaaGreat
set_option linter.unusedSimpArgs false
set_option linter.unusedVariables false
set_option linter.unusedVariables false
open Go.RowKit

/-- two slice values do not lie in one block -/
def Apart (u u' : Value) : Prop := u.ownBlock = none ∨ u.ownBlock ≠ u'.ownBlock
theorem Apart.symm {u u' : Value} (h : Apart u u') : Apart u' u := by
  unfold Apart at *
  cases hx : u'.ownBlock with
  | none => exact .inl rfl
  | some k =>
    rcases h with h | h
    · rw [h]; right; simp
    · right; rw [hx] at h; exact Ne.symm h
/-- the slices us own the rows xss, in blocks from lo on, below hi, no two in one block -/
def RowsV (w : World) (lo hi : Nat) (us : List Value) (xss : List (List Int)) : Prop :=
  us.length = xss.length ∧ (∀ i, i < xss.length → ∃ u, us[i]? = some u ∧ OwnI w lo hi u (rx xss i)) ∧ us.Pairwise Apart

section
variable {w w' : World} {A : Option Addr} {n c : Nat} {xss yss : List (List Int)} {us vs : List Value} {v : Value} {lo hi l2 h2 : Nat}

theorem ownR_iff : OwnR w lo hi v xss ↔ ∃ vs : List Value, w.ownsRow lo 26 1 v xss.length vs ∧ (∀ k, v.ownBlock = some k → k < hi) ∧ RowsV w lo hi vs xss := by
  constructor
  · rintro ⟨vs, h1, h2, h3, h4⟩
    refine ⟨vs, h1, h2, by have := h1.1; omega, h3, ?_⟩
    rw [List.pairwise_iff_getElem]
    intro i j hi hj hij
    exact h4 i j _ _ hij (List.getElem?_eq_getElem hi) (List.getElem?_eq_getElem hj)
  · rintro ⟨vs, h1, h2, h3, h4, h5⟩
    refine ⟨vs, h1, h2, h4, fun i j u u' hij e1 e2 => ?_⟩
    rw [List.pairwise_iff_getElem] at h5
    obtain ⟨hi, e1⟩ := List.getElem?_eq_some_iff.1 e1
    obtain ⟨hj, e2⟩ := List.getElem?_eq_some_iff.1 e2
    rw [← e1, ← e2]
    exact h5 i j hi hj hij

theorem rx_append_left {i : Nat} (h : i < xss.length) : rx (xss ++ yss) i = rx xss i := by unfold rx; simp [List.getD, List.getElem?_append_left h]
theorem rx_append_right {i : Nat} (h : xss.length ≤ i) : rx (xss ++ yss) i = rx yss (i - xss.length) := by unfold rx; simp [List.getD, List.getElem?_append_right h]

theorem RowsV.mono {lo' hi' : Nat} (h : RowsV w lo hi us xss) (hl : lo' ≤ lo) (hh : hi ≤ hi') : RowsV w lo' hi' us xss :=
  ⟨h.1, fun i hi => by obtain ⟨u, e, ho⟩ := h.2.1 i hi; exact ⟨u, e, ho.mono hl hh⟩, h.2.2⟩

theorem RowsV.append (h : RowsV w lo hi us xss) (g : RowsV w l2 h2 vs yss) (hd : hi ≤ l2) : RowsV w (min lo l2) (max hi h2) (us ++ vs) (xss ++ yss) := by
  refine ⟨by simp [h.1, g.1], fun i hi => ?_, ?_⟩
  · by_cases e : i < xss.length
    · obtain ⟨u, e1, ho⟩ := h.2.1 i e
      exact ⟨u, by rw [List.getElem?_append_left (by rw [h.1]; exact e)]; exact e1, by rw [rx_append_left e]; exact ho.mono (Nat.min_le_left _ _) (Nat.le_max_left _ _)⟩
    · rw [List.length_append] at hi
      obtain ⟨u, e1, ho⟩ := g.2.1 (i - xss.length) (by omega)
      exact ⟨u, by rw [List.getElem?_append_right (by rw [h.1]; omega), h.1]; exact e1, by rw [rx_append_right (by omega)]; exact ho.mono (Nat.min_le_right _ _) (Nat.le_max_right _ _)⟩
  · rw [List.pairwise_append]
    refine ⟨h.2.2, g.2.2, fun a ha b hb => ?_⟩
    obtain ⟨i, hi, rfl⟩ := List.getElem_of_mem ha
    obtain ⟨j, hj, rfl⟩ := List.getElem_of_mem hb
    obtain ⟨u, e1, o1⟩ := h.2.1 i (by rw [← h.1]; exact hi)
    obtain ⟨u', e2, o2⟩ := g.2.1 j (by rw [← g.1]; exact hj)
    rw [List.getElem?_eq_getElem hi] at e1
    rw [List.getElem?_eq_getElem hj] at e2
    cases e1
    cases e2
    cases hx : (us[i]).ownBlock with
    | none => exact .inl hx
    | some k =>
      right
      intro e
      have a1 := (o1.block_ge k hx).2
      have a2 := (o2.block_ge k (by rw [← e]; exact hx)).1
      omega

theorem RowsV.take (h : RowsV w lo hi us xss) (k : Nat) : RowsV w lo hi (us.take k) (xss.take k) := by
  refine ⟨by simp [h.1], fun i hi => ?_, h.2.2.sublist (List.take_sublist _ _)⟩
  rw [List.length_take] at hi
  obtain ⟨u, e, ho⟩ := h.2.1 i (by omega)
  refine ⟨u, by rw [List.getElem?_take_of_lt (by omega)]; exact e, ?_⟩
  have : rx (xss.take k) i = rx xss i := by unfold rx; simp only [List.getD]; rw [List.getElem?_take_of_lt (by omega)]
  rw [this]
  exact ho

theorem RowsV.of_grown {row : Option Nat} (h : RowsV w lo hi us xss) (hg : w.grownBy w' row) (hr : ∀ k ys, row = some k → ∀ u, OwnI w lo hi u ys → u.ownBlock ≠ some k) : RowsV w' lo hi us xss := by
  refine ⟨h.1, fun i hi => ?_, h.2.2⟩
  obtain ⟨u, e, ho⟩ := h.2.1 i hi
  refine ⟨u, e, ⟨ho.1.1, ?_⟩, ho.2⟩
  rcases ho.1.2 with h0 | ⟨g', cap, cur, hv, hgb, hg', r⟩
  · exact .inl h0
  · refine .inr ⟨g', cap, cur, hv, hgb, ?_, r⟩
    rw [hg.block g' (Array.getElem?_eq_some_iff.1 hg').1]
    · exact hg'
    · intro e'
      exact hr g' _ e'.symm u ho (by rw [hv]; rfl)

/-- a block that holds slices holds no numbers -/
theorem no_mix {w : World} {v : Value} {n : Nat} {vs : List Value} {b : Nat} (h1 : w.ownsRow b 26 1 v n vs) {u : Value} {l h : Nat} {ys : List Int} (ho : OwnI w l h u ys) {k : Nat} (e : v.ownBlock = some k) : u.ownBlock ≠ some k := by
  rcases h1.2 with ⟨rfl, _⟩ | ⟨g, cap, cur, rfl, h0, hg, r⟩
  · simp [Value.ownBlock] at e
  · simp [Value.ownBlock] at e
    subst e
    exact ne_block (lo := b) (n := n) (c := cap) (vs := vs) ⟨h1.1, .inr ⟨g, cap, cur, rfl, h0, hg, r⟩⟩ ho

theorem rowsV_one {u : Value} {xs : List Int} (h : OwnI w lo hi u xs) : RowsV w lo hi [u] [xs] := by
  refine ⟨rfl, fun i hi => ?_, by simp⟩
  match i, hi with
  | 0, _ => exact ⟨u, rfl, h⟩

/-- the cells of a row's slices -/
theorem OwnR.rowsV {A : Option Addr} {c : Nat} (h : OwnR w lo hi (.slice A n c) xss) : ∃ us, RowsV w lo hi us xss ∧ (∀ j, j < n → ∃ b o, A = some ⟨b, o, none⟩ ∧ w.cell? ⟨b, o + j, none⟩ = us[j]?) := by
  obtain rfl := h.num.1
  obtain ⟨vs, h1, h2, h3⟩ := ownR_iff.1 h
  refine ⟨vs, h3, fun j hj => ?_⟩
  obtain ⟨g, rfl, _⟩ := h.head (by omega)
  exact ⟨g, 0, rfl, by rw [Nat.zero_add]; exact World.ownsRow.cellAt h1 j (by omega)⟩

theorem OwnR.grownBy {row : Option Nat} (h : OwnR w lo hi v xss) (hg : w.grownBy w' row) (hr : ∀ k, row = some k → k < lo ∨ hi ≤ k) : OwnR w' lo hi v xss :=
  h.keep fun k h1 h2 hs => hg.block k hs (fun e => by have := hr k e.symm; omega)
theorem OwnI.grownBy {row : Option Nat} {xs : List Int} (h : OwnI w lo hi v xs) (hg : w.grownBy w' row) (hr : ∀ k, row = some k → k < lo ∨ hi ≤ k) : OwnI w' lo hi v xs :=
  h.keep fun k h1 h2 hs => hg.block k hs (fun e => by have := hr k e.symm; omega)
end

theorem RowsV.belowW {w w' : World} {lo hi : Nat} {us : List Value} {xss : List (List Int)} (h : RowsV w lo hi us xss) (hb : Below w.heap.size w w') : RowsV w' lo hi us xss :=
  ⟨h.1, fun i hi => by obtain ⟨u, e, ho⟩ := h.2.1 i hi; exact ⟨u, e, ho.belowW hb⟩, h.2.2⟩
theorem RowsV.only {w w' : World} {lo hi l2 h2 : Nat} {us : List Value} {xss : List (List Int)} (h : RowsV w lo hi us xss) (ho : Only l2 h2 w w') (hd : hi ≤ l2 ∨ h2 ≤ lo) : RowsV w' lo hi us xss :=
  ⟨h.1, fun i hi => by obtain ⟨u, e, hu⟩ := h.2.1 i hi; exact ⟨u, e, hu.only ho hd⟩, h.2.2⟩
theorem RowsV.nil {w : World} {lo hi : Nat} : RowsV w lo hi [] [] := ⟨rfl, fun i h => absurd h (by simp), by simp⟩
theorem RowsV.tight {w : World} {lo hi : Nat} {us : List Value} {xss : List (List Int)} (h : RowsV w lo hi us xss) : RowsV w lo w.heap.size us xss :=
  ⟨h.1, fun i hi => by
    obtain ⟨u, e, ho⟩ := h.2.1 i hi
    exact ⟨u, e, ho.1, fun k e => (World.ownsRow.lt ho.1 k e).2⟩, h.2.2⟩
/-- some of the rows, in their order -/
theorem RowsV.sub {w : World} {lo hi : Nat} {us vs : List Value} {xss yss : List (List Int)} (h : RowsV w lo hi us xss) (hl : vs.length = yss.length) (hs : (vs.zip yss).Sublist (us.zip xss)) : RowsV w lo hi vs yss := by
  have e1 : (vs.zip yss).map Prod.fst = vs := List.map_fst_zip (by omega)
  have e2 : (us.zip xss).map Prod.fst = us := List.map_fst_zip (by rw [h.1]; exact Nat.le_refl _)
  refine ⟨hl, fun i hi => ?_, ?_⟩
  · have hi1 : i < vs.length := by omega
    have hm : (vs[i], yss[i]) ∈ vs.zip yss := List.mem_iff_getElem.2 ⟨i, by simp [hl]; omega, by simp⟩
    obtain ⟨j, hj, e⟩ := List.mem_iff_getElem.1 (hs.subset hm)
    have hj2 : j < us.length ∧ j < xss.length := by simp at hj; omega
    simp at e
    obtain ⟨u, e3, ho⟩ := h.2.1 j hj2.2
    rw [List.getElem?_eq_getElem hj2.1] at e3
    cases e3
    refine ⟨vs[i], by simp [hi1], ?_⟩
    rw [← e.1, rx_lt hi, ← e.2, ← rx_lt hj2.2]
    exact ho
  · have hp := h.2.2
    rw [← e2] at hp
    rw [← e1]
    exact hp.sublist (hs.map _)

section
variable {ops : Array Oper} {rest : List Oper} {o : Oper} {a : Act} {Q : Exit → Act → World → Prop}

/-- 'out = append(out, rows...)', out nil or the call's own -/
theorem wpList_append_rowsV (w : World) (hg : o.guard = none) (s x : Operand) (hop : o.op = Op.call { callee := Callee.builtin Builtin.append, args := #[s, x], argTypes := #[59, 59] })
    (lo n c : Nat) (A : Option Addr) (vs : List Value) (hs : a.eval s = .slice A n c) (h1 : w.ownsRow lo 26 1 (.slice A n c) n vs)
    (B : Option Addr) (m cc : Nat) (us : List Value) (zss : List (List Int)) (l2 h2 : Nat) (hx : a.eval x = .slice B m cc) (hcells : ∀ j, j < m → ∃ b o, B = some ⟨b, o, none⟩ ∧ w.cell? ⟨b, o + j, none⟩ = us[j]?)
    (hV : RowsV w l2 h2 (vs ++ us) zss) (hm : us.length = m) (hn : n + m ≤ 1000000000000) (hlw : lo ≤ w.heap.size)
    (hK : ∀ A'' c'' w', w'.ownsRow lo 26 1 (.slice A'' (n + m) c'') (n + m) (vs ++ us) → RowsV w' l2 h2 (vs ++ us) zss → w.grownBy w' (Value.slice A n c).ownBlock → ((Value.slice A'' (n + m) c'').ownBlock = (Value.slice A n c).ownBlock ∨ (Value.slice A'' (n + m) c'').ownBlock = some w.heap.size) → wpList Tryz.prog ops Q rest (a.put o.dst (.slice A'' (n + m) c'')) w') :
    wpList Tryz.prog ops Q (o :: rest) a w := by
  obtain ⟨i0, hi0, hz0, hz1, hz2⟩ := info_parts infoR
  subst hm
  have hvs : vs.length = n := by have := h1.1; omega
  have hone : ∀ u ∈ us, u.oneCell' = true := by
    intro u hu
    obtain ⟨j, hj, rfl⟩ := List.getElem_of_mem hu
    have hlen := hV.1
    rw [List.length_append] at hlen
    obtain ⟨u', e1, ho⟩ := hV.2.1 (vs.length + j) (by omega)
    rw [List.getElem?_append_right (by omega), show vs.length + j - vs.length = j by omega, List.getElem?_eq_getElem hj] at e1
    cases e1
    obtain ⟨A2, c2, e2, _⟩ := ho.len
    rw [e2]
    rfl
  have hfin : ∀ v' w', w'.ownsRow lo 26 1 v' (n + us.length) (vs ++ us) → w.grownBy w' (Value.slice A n c).ownBlock → RowsV w' l2 h2 (vs ++ us) zss := fun v' w' _ hgrow =>
    hV.of_grown hgrow fun k ys e u ho => no_mix h1 ho e
  have hform : ∀ (v' : Value) (w' : World), w'.ownsRow lo 26 1 v' (n + us.length) (vs ++ us) → ∃ A'' c'', v' = .slice A'' (n + us.length) c'' := fun v' w' ho => by
    rcases ho.2 with ⟨rfl, h0⟩ | ⟨g, cap, cur, rfl, _⟩
    · exact ⟨none, 0, by rw [h0]⟩
    · exact ⟨_, _, rfl⟩
  cases B with
  | none =>
    have hu0 : us = [] := by
      rcases Nat.eq_zero_or_pos us.length with h0 | h0
      · exact List.eq_nil_of_length_eq_zero h0
      · obtain ⟨b, o', e, _⟩ := hcells 0 h0
        cases e
    subst hu0
    refine wpList_plain hg fun K hK' => ?_
    have hrun := run_append_of_nil (P := Tryz.prog) w lo 59 o.type 26 i0 1 Tryz.underlying59 hi0 _ n _ h1 cc
    unfold Oper.wp
    simp [execOp, hop, resolve, invoke, builtin, hs, hx, hrun, Result.andThen]
    refine hK' _ _ ?_
    have hgr : w.grownBy w (Value.slice A n c).ownBlock := ⟨rfl, rfl, rfl, Nat.le_refl _, fun _ _ _ => rfl⟩
    have h6 := hfin (.slice A n c) w (by simpa using h1) hgr
    have h5 := hK A c w (by simpa using h1) h6 hgr (.inl rfl)
    simpa using h5
  | some ad =>
    refine wpList_append_own_at w hg s x 59 hop lo 26 i0 (.slice none 0 0) 1 24 Tryz.underlying59 hi0 hz0 hz1 hz2 rfl (by decide) _ n _ hs h1 ad us.length cc us hx (by simp) ?_ hone (by unfold maxLen; omega) (by omega) (by omega) ?_
    · intro j u hj
      have hjl := (List.getElem?_eq_some_iff.1 hj).1
      obtain ⟨b, o', e, hc⟩ := hcells j hjl
      cases e
      rw [Addr.add_lit, hc, hj]
    · intro v' w' hown' hgrow _ hat
      obtain ⟨A'', c'', rfl⟩ := hform v' w' hown'
      exact hK A'' c'' w' hown' (hfin _ w' hown' hgrow) hgrow hat

/-- the same; the rows lie behind all of out's -/
theorem wpList_append_rows (w : World) (hg : o.guard = none) (s x : Operand) (hop : o.op = Op.call { callee := Callee.builtin Builtin.append, args := #[s, x], argTypes := #[59, 59] })
    (lo hi n c : Nat) (A : Option Addr) (xss : List (List Int)) (hs : a.eval s = .slice A n c) (hown : OwnR w lo hi (.slice A n c) xss)
    (B : Option Addr) (m cc : Nat) (us : List Value) (yss : List (List Int)) (l2 h2 : Nat) (hx : a.eval x = .slice B m cc) (hcells : ∀ j, j < m → ∃ b o, B = some ⟨b, o, none⟩ ∧ w.cell? ⟨b, o + j, none⟩ = us[j]?)
    (hus : RowsV w l2 h2 us yss) (hm : yss.length = m) (hl2 : hi ≤ l2) (hn : n + m ≤ 1000000000000) (hlw : lo ≤ w.heap.size) (hlo : lo ≤ l2)
    (hK : ∀ A'' c'' w', OwnR w' lo w'.heap.size (.slice A'' (n + m) c'') (xss ++ yss) → w.grownBy w' (Value.slice A n c).ownBlock → ((Value.slice A'' (n + m) c'').ownBlock = (Value.slice A n c).ownBlock ∨ (Value.slice A'' (n + m) c'').ownBlock = some w.heap.size) → wpList Tryz.prog ops Q rest (a.put o.dst (.slice A'' (n + m) c'')) w') :
    wpList Tryz.prog ops Q (o :: rest) a w := by
  obtain rfl := hown.num.1
  subst hm
  obtain ⟨vs, h1, h2', h3⟩ := ownR_iff.1 hown
  have hboth : RowsV w lo w.heap.size (vs ++ us) (xss ++ yss) := by
    have hb := h3.append hus hl2
    rw [Nat.min_eq_left hlo] at hb
    exact hb.tight
  refine wpList_append_rowsV w hg s x hop lo xss.length c A vs hs h1 B yss.length cc us (xss ++ yss) lo w.heap.size hx hcells hboth hus.1 hn hlw ?_
  intro A'' c'' w' ho hr hgr hat
  refine hK A'' c'' w' (ownR_iff.2 ⟨vs ++ us, by rw [List.length_append]; exact ho, fun k e => (World.ownsRow.lt ho k e).2, hr.mono (Nat.le_refl _) hgr.size⟩) hgr hat
end

theorem OwnR.block_ge {w : World} {lo hi : Nat} {v : Value} {xss : List (List Int)} (h : OwnR w lo hi v xss) : ∀ k, v.ownBlock = some k → lo ≤ k ∧ k < hi := by
  obtain ⟨vs, h1, h2, _⟩ := h
  exact fun k e => ⟨(World.ownsRow.lt h1 k e).1, h2 k e⟩
theorem Only.grownBy {lo hi : Nat} {w w' w'' : World} {row : Option Nat} (h : Only lo hi w w') (g : w'.grownBy w'' row) (hr : ∀ k, row = some k → w.heap.size ≤ k) : Only lo hi w w'' :=
  ⟨g.os.trans h.os, g.tape.trans h.tape, g.output.trans h.output, Nat.le_trans h.size g.size, fun k hs hk => (g.block k (Nat.lt_of_lt_of_le hs h.size) (fun e => by have := hr k e.symm; omega)).trans (h.block k hs hk)⟩
theorem grown_trans {w w' w'' : World} {row row' : Option Nat} (h : w.grownBy w' row) (g : w'.grownBy w'' row') (hr : ∀ j, row' = some j → row = some j ∨ w.heap.size ≤ j) : w.grownBy w'' row :=
  ⟨g.os.trans h.os, g.tape.trans h.tape, g.output.trans h.output, Nat.le_trans h.size g.size, fun k hs hk => (g.block k (Nat.lt_of_lt_of_le hs h.size) (fun e => by
    rcases hr k e.symm with h1 | h1
    · exact hk h1.symm
    · omega)).trans (h.block k hs hk)⟩
theorem grown_below {w w' w'' : World} {row : Option Nat} (h : w.grownBy w' row) (g : Below w'.heap.size w' w'') : w.grownBy w'' row :=
  ⟨g.os.trans h.os, g.tape.trans h.tape, g.output.trans h.output, Nat.le_trans h.size g.size, fun k hs hk => (g.block k (Nat.lt_of_lt_of_le hs h.size)).trans (h.block k hs hk)⟩
theorem grown_refl (w : World) (row : Option Nat) : w.grownBy w row := ⟨rfl, rfl, rfl, Nat.le_refl _, fun _ _ _ => rfl⟩
theorem ownsRow_below {w w' : World} {lo n : Nat} {v : Value} {vs : List Value} (h : w.ownsRow lo 26 1 v n vs) (hb : Below w.heap.size w w') : w'.ownsRow lo 26 1 v n vs := by
  refine ⟨h.1, ?_⟩
  rcases h.2 with h0 | ⟨g, cap, cur, hv, hgb, hg, r⟩
  · exact .inl h0
  · exact .inr ⟨g, cap, cur, hv, hgb, by rw [hb.block g (Array.getElem?_eq_some_iff.1 hg).1]; exact hg, r⟩
theorem below_of_below {w w' w'' : World} {row : Option Nat} (h : Below w.heap.size w w') (g : w'.grownBy w'' row) (hr : ∀ j, row = some j → w.heap.size ≤ j) : Below w.heap.size w w'' :=
  ⟨g.os.trans h.os, g.tape.trans h.tape, g.output.trans h.output, Nat.le_trans h.size g.size, fun k hk => (g.block k (Nat.lt_of_lt_of_le hk h.size) (fun e => by have := hr k e.symm; omega)).trans (h.block k hk)⟩
theorem RowsV.grownBy {w w' : World} {lo hi : Nat} {us : List Value} {xss : List (List Int)} {row : Option Nat} (h : RowsV w lo hi us xss) (hg : w.grownBy w' row) (hr : ∀ k, row = some k → k < lo ∨ hi ≤ k) : RowsV w' lo hi us xss :=
  ⟨h.1, fun i hi => by obtain ⟨u, e, ho⟩ := h.2.1 i hi; exact ⟨u, e, ho.grownBy hg hr⟩, h.2.2⟩

/-- of the slices us of the rows ys, the first k: those whose row passes -/
def pick (p : List Int → Bool) (us : List Value) (ys : List (List Int)) (k : Nat) : List (Value × List Int) := ((us.zip ys).take k).filter (fun x => p x.2)
def pickU (p : List Int → Bool) (us : List Value) (ys : List (List Int)) (k : Nat) : List Value := (pick p us ys k).map Prod.fst
def pickY (p : List Int → Bool) (us : List Value) (ys : List (List Int)) (k : Nat) : List (List Int) := (pick p us ys k).map Prod.snd
section
variable {p : List Int → Bool} {us : List Value} {ys : List (List Int)} {k : Nat} {u : Value}
theorem pick_len : (pickU p us ys k).length = (pickY p us ys k).length := by simp [pickU, pickY]
theorem pickY_len : (pickY p us ys k).length ≤ k := by
  simp only [pickY, pick, List.length_map]
  exact Nat.le_trans (List.length_filter_le _ _) (by rw [List.length_take]; exact Nat.min_le_left _ _)
theorem pick_zero : pickU p us ys 0 = [] ∧ pickY p us ys 0 = [] := by simp [pickU, pickY, pick]
theorem zip_take_succ (hk : k < ys.length) (hu : us[k]? = some u) : (us.zip ys).take (k + 1) = (us.zip ys).take k ++ [(u, rx ys k)] := by
  obtain ⟨h1, h2⟩ := List.getElem?_eq_some_iff.1 hu
  have h3 : k < (us.zip ys).length := by simp; omega
  rw [List.take_succ_eq_append_getElem h3]
  congr 2
  simp [h2, rx_lt hk]
theorem pick_yes (hk : k < ys.length) (hu : us[k]? = some u) (h : p (rx ys k) = true) : pickU p us ys (k + 1) = pickU p us ys k ++ [u] ∧ pickY p us ys (k + 1) = pickY p us ys k ++ [rx ys k] := by
  simp only [pickU, pickY, pick, zip_take_succ hk hu, List.filter_append, List.map_append]
  simp [h]
theorem pick_no (hk : k < ys.length) (hu : us[k]? = some u) (h : p (rx ys k) = false) : pickU p us ys (k + 1) = pickU p us ys k ∧ pickY p us ys (k + 1) = pickY p us ys k := by
  simp only [pickU, pickY, pick, zip_take_succ hk hu, List.filter_append, List.map_append]
  simp [h]
theorem pick_all (h : us.length = ys.length) : pickY p us ys ys.length = ys.filter p := by
  have e : (us.zip ys).take ys.length = us.zip ys := List.take_of_length_le (by simp; omega)
  simp only [pickY, pick, e]
  have h2 : (us.zip ys).map Prod.snd = ys := List.map_snd_zip (by omega)
  conv => rhs; rw [← h2]
  rw [List.filter_map]
  rfl
theorem zip_pair (L : List (Value × List Int)) : (L.map Prod.fst).zip (L.map Prod.snd) = L := by
  induction L with
  | nil => rfl
  | cons a L ih => simp [ih]
theorem RowsV.pick {w : World} {lo hi : Nat} (h : RowsV w lo hi us ys) (p : List Int → Bool) (k : Nat) : RowsV w lo hi (pickU p us ys k) (pickY p us ys k) := by
  refine h.sub pick_len ?_
  unfold pickU pickY
  rw [zip_pair]
  exact (List.filter_sublist).trans (List.take_sublist _ _)
end
/-- a row of one slice, written out -/
theorem OwnR.lit1 {w : World} {lo hi : Nat} {u : Value} {xs : List Int} (h : OwnI w lo hi u xs) (hl : lo ≤ w.heap.size) (hh : hi ≤ w.heap.size) : OwnR (w.alloc (.cells #[u] 26)) lo (w.heap.size + 1) (.slice (some ⟨w.heap.size, 0, none⟩) 1 1) [xs] :=
  ownR_iff.2 ⟨[u], World.ownsRow_lit (e := 26) (size := 1) (base := lo) w #[u] 1 hl (by unfold maxLen; omega) rfl, fun k e => by simp [Value.ownBlock] at e; omega, (rowsV_one (h.alloc _)).mono (Nat.le_refl _) (by omega)⟩
end Go.Proofs.YtcjnjnegaoihoaaGreat
