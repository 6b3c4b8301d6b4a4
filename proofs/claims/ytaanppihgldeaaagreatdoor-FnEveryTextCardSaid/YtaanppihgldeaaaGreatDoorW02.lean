/- Plain lemmas on worlds: a slice of slices of integers that the call made. Rows of strings. No program is walked here. Small functions on numbers. -/
import Derived.Test.YtaanppihgldeaaaGreatDoorW01
import Derived.Laws.BytesArg
namespace Go.Proofs.YtaanppihgldeaaaGreatDoor
set_option linter.unusedSimpArgs false
set_option linter.unusedVariables false
set_option linter.unusedVariables false
open Go.RowKit

/-- a row of two numbers, written out -/
theorem OwnI.lit2 (w : World) (x y : Int) : OwnI (w.alloc (.cells #[.int .i64 x, .int .i64 y] 3)) w.heap.size (w.heap.size + 1) (.slice (some ⟨w.heap.size, 0, none⟩) 2 2) [x, y] :=
  ⟨World.ownsRow_lit (e := 3) (size := 1) (base := w.heap.size) w #[.int .i64 x, .int .i64 y] 2 (Nat.le_refl _) (by unfold maxLen; omega) rfl, fun k e => by simp [Value.ownBlock] at e; omega⟩
theorem infoR : (Tryz.prog.info? 27).map (fun i => (i.zero, i.size, i.bytes)) = some (some (.slice none 0 0), 1, 24) := by kernel_rfl

/-- v is a row of slices of the call's own, each of which owns its integers; all blocks lie from lo on, below hi; no two rows share a block -/
def OwnR (w : World) (lo hi : Nat) (v : Value) (xss : List (List Int)) : Prop :=
  ∃ vs : List Value, w.ownsRow lo 27 1 v xss.length vs ∧ (∀ k, v.ownBlock = some k → k < hi) ∧
    (∀ i, i < xss.length → ∃ u, vs[i]? = some u ∧ OwnI w lo hi u (rx xss i)) ∧
    (∀ (i j : Nat) (u u' : Value), i < j → vs[i]? = some u → vs[j]? = some u' → u.ownBlock = none ∨ u.ownBlock ≠ u'.ownBlock)

section
variable {w w' : World} {A : Option Addr} {n c : Nat} {xss : List (List Int)} {xs : List Int} {v u : Value} {lo hi B : Nat}

theorem OwnR.len (h : OwnR w lo hi v xss) : ∃ A c, v = .slice A xss.length c ∧ xss.length ≤ c := by
  obtain ⟨vs, h, _⟩ := h
  rcases h.2 with ⟨rfl, h0⟩ | ⟨g, cap, cur, rfl, _, _, hc, _⟩
  · exact ⟨none, 0, by rw [h0], by omega⟩
  · exact ⟨_, _, rfl, hc⟩

theorem OwnR.nil (w : World) (lo hi : Nat) : OwnR w lo hi (.slice none 0 0) [] :=
  ⟨[], World.ownsRow_nil _ _ _ _, fun k h => by simp [Value.ownBlock] at h, fun i h => absurd h (by simp), fun i j u u' _ h => by simp at h⟩

theorem OwnR.empty (w : World) {lo hi : Nat} (hl : lo ≤ w.heap.size) (hh : w.heap.size < hi) : OwnR (w.alloc (.cells #[] 27)) lo hi (.slice (some ⟨w.heap.size, 0, none⟩) 0 0) [] :=
  ⟨[], World.ownsRow_lit (e := 27) (size := 1) (base := lo) w #[] 0 hl (by unfold maxLen; omega) rfl, fun k e => by simp [Value.ownBlock] at e; omega, fun i h => absurd h (by simp), fun i j u u' _ h => by simp at h⟩

theorem OwnR.keep (h : OwnR w lo hi v xss) (hf : ∀ k, lo ≤ k → k < hi → k < w.heap.size → w'.heap[k]? = w.heap[k]?) : OwnR w' lo hi v xss := by
  obtain ⟨vs, h1, h2, h3, h4⟩ := h
  refine ⟨vs, ⟨h1.1, ?_⟩, h2, fun i hi => ?_, h4⟩
  · rcases h1.2 with h0 | ⟨g, cap, cur, hv, hgb, hg, r⟩
    · exact .inl h0
    · exact .inr ⟨g, cap, cur, hv, hgb, by rw [hf g hgb (h2 g (by rw [hv]; rfl)) (Array.getElem?_eq_some_iff.1 hg).1]; exact hg, r⟩
  · obtain ⟨u, e, ho⟩ := h3 i hi
    exact ⟨u, e, ho.keep hf⟩

theorem OwnR.below (h : OwnR w lo hi v xss) (hb : Below B w w') (hB : hi ≤ B) : OwnR w' lo hi v xss := h.keep fun k _ hk _ => hb.block k (by omega)
theorem OwnR.belowW (h : OwnR w lo hi v xss) (hb : Below w.heap.size w w') : OwnR w' lo hi v xss := h.keep fun k _ _ hs => hb.block k hs
theorem OwnR.only {l2 h2 : Nat} (h : OwnR w lo hi v xss) (ho : Only l2 h2 w w') (hd : hi ≤ l2 ∨ h2 ≤ lo) : OwnR w' lo hi v xss := h.keep fun k h1 h2 hs => ho.block k hs (by omega)
theorem OwnR.alloc (h : OwnR w lo hi v xss) (o : Obj) : OwnR (w.alloc o) lo hi v xss := h.belowW ((Below.refl _ _).alloc (Nat.le_refl _) o)
theorem OwnR.drewN (h : OwnR w lo hi v xss) (m : Nat) : OwnR (w.drewN m) lo hi v xss := h

theorem OwnR.mono {lo' hi' : Nat} (h : OwnR w lo hi v xss) (hl : lo' ≤ lo) (hh : hi ≤ hi') : OwnR w lo' hi' v xss := by
  obtain ⟨vs, h1, h2, h3, h4⟩ := h
  refine ⟨vs, ⟨h1.1, ?_⟩, fun k hk => by have := h2 k hk; omega, fun i hi => ?_, h4⟩
  · rcases h1.2 with h0 | ⟨g, cap, cur, hv, hgb, r⟩
    · exact .inl h0
    · exact .inr ⟨g, cap, cur, hv, by omega, r⟩
  · obtain ⟨u, e, ho⟩ := h3 i hi
    exact ⟨u, e, ho.mono hl hh⟩

/-- the outer row's cells -/
theorem OwnR.form (h : OwnR w lo hi v xss) : ∃ A c, v = .slice A xss.length c ∧ xss.length ≤ c ∧ (0 < xss.length → ∃ g, A = some ⟨g, 0, none⟩ ∧ lo ≤ g ∧ g < hi ∧ g < w.heap.size ∧
    ∀ j, j < xss.length → w.frozen? ⟨g, j, none⟩ = false ∧ ∃ A' c', w.cell? ⟨g, j, none⟩ = some (.slice A' (rx xss j).length c') ∧ OwnI w lo hi (.slice A' (rx xss j).length c') (rx xss j)) := by
  obtain ⟨vs, h1, h2, h3, h4⟩ := h
  rcases h1.2 with ⟨rfl, h0⟩ | ⟨g, cap, cur, rfl, hb, hg, hc, hm, hs, ht⟩
  · exact ⟨none, 0, by rw [h0], by omega, fun hn => by omega⟩
  · refine ⟨_, _, rfl, hc, fun _ => ⟨g, rfl, hb, h2 g rfl, (Array.getElem?_eq_some_iff.1 hg).1, fun j hj => ?_⟩⟩
    obtain ⟨u, e, ho⟩ := h3 j hj
    obtain ⟨A', c', rfl, _⟩ := ho.len
    refine ⟨World.ownsRow.frozenAt h1 j, A', c', ?_, ho⟩
    rw [World.ownsRow.cellAt h1 j (by omega)]
    exact e

theorem OwnR.at_ (h : OwnR w lo hi (.slice A n c) xss) : RowsAt w A n xss := by
  obtain ⟨A', c', e, hc, hf⟩ := h.form
  cases e
  refine ⟨rfl, fun hn => ?_⟩
  obtain ⟨g, rfl, _, _, _, hj⟩ := hf hn
  refine ⟨g, 0, rfl, fun j hlt => ?_⟩
  obtain ⟨_, A', c', h1, h2⟩ := hj j hlt
  exact ⟨A', _, c', by simpa using h1, h2.ints.2.2.1, by simpa [rx] using h2.at_⟩

theorem OwnR.num (h : OwnR w lo hi (.slice A n c) xss) : xss.length = n ∧ n ≤ c := by
  obtain ⟨A', c', e, hc, _⟩ := h.form
  cases e
  exact ⟨rfl, hc⟩

theorem OwnR.head (h : OwnR w lo hi (.slice A n c) xss) (hn : 0 < n) : ∃ g, A = some ⟨g, 0, none⟩ ∧ lo ≤ g ∧ g < hi ∧ g < w.heap.size := by
  obtain ⟨A', c', e, hc, hf⟩ := h.form
  cases e
  obtain ⟨g, e, h1, h2, h3, _⟩ := hf hn
  exact ⟨g, e, h1, h2, h3⟩

/-- row j of it -/
theorem OwnR.row {g : Nat} (h : OwnR w lo hi (.slice (some ⟨g, 0, none⟩) n c) xss) (j : Nat) (hj : j < n) :
    w.frozen? ⟨g, j, none⟩ = false ∧ ∃ A' c', w.cell? ⟨g, j, none⟩ = some (.slice A' (rx xss j).length c') ∧ OwnI w lo hi (.slice A' (rx xss j).length c') (rx xss j) := by
  obtain ⟨A', c', e, hc, hf⟩ := h.form
  cases e
  obtain ⟨g', e, _, _, _, h3⟩ := hf (by omega)
  cases e
  exact h3 j hj

/-- the outer block and an inner one differ -/
theorem ne_block {g : Nat} {n c : Nat} {vs : List Value} {l2 h2 : Nat} (h1 : w.ownsRow lo 27 1 (.slice (some ⟨g, 0, none⟩) n c) n vs) (h3 : OwnI w l2 h2 u xs) : u.ownBlock ≠ some g := by
  rcases h1.2 with ⟨e, _⟩ | ⟨g', cap, cur, e, _, hg, _⟩
  · cases e
  · cases e
    rcases h3.1.2 with ⟨rfl, _⟩ | ⟨g2, cap2, cur2, rfl, _, hg2, _⟩
    · simp [Value.ownBlock]
    · intro e2
      simp [Value.ownBlock] at e2
      subst e2
      rw [hg] at hg2
      simp at hg2

theorem rx_set {j i : Nat} (hj : j < xss.length) : rx (xss.set j xs) i = if i = j then xs else rx xss i := by
  unfold rx
  simp only [List.getD, List.getElem?_set]
  by_cases e : j = i
  · subst e; simp [hj]
  · simp [e, Ne.symm e]

/-- a slice of the call's own is stored as row j; it lies in no other row's block -/
theorem OwnR.stored {g : Nat} (h : OwnR w lo hi (.slice (some ⟨g, 0, none⟩) n c) xss) (j : Nat) (hj : j < n) (hu : OwnI w lo hi u xs)
    (hfresh : ∀ i A' c', i ≠ j → i < n → w.cell? ⟨g, i, none⟩ = some (.slice A' (rx xss i).length c') → u.ownBlock = none ∨ (Value.slice A' (rx xss i).length c').ownBlock ≠ u.ownBlock) :
    OwnR (w.setCell ⟨g, j, none⟩ u) lo hi (.slice (some ⟨g, 0, none⟩) n c) (xss.set j xs) ∧ Only g (g + 1) w (w.setCell ⟨g, j, none⟩ u) := by
  obtain rfl := h.num.1
  obtain ⟨vs, h1, h2, h3, h4⟩ := h
  have hst := World.ownsRow.stored h1 j u
  have hlen : vs.length = xss.length := by have := h1.1; omega
  have hcell : ∀ i x, i < xss.length → vs[i]? = some x → w.cell? ⟨g, i, none⟩ = some x := fun i x hi e => by rw [World.ownsRow.cellAt h1 i (by omega)]; exact e
  refine ⟨⟨vs.set j u, by rw [List.length_set]; exact hst.1, h2, fun i hil => ?_, fun i k a b hik ha hb => ?_⟩, Only.of_grown hst.2 fun k e => by cases e; omega⟩
  · rw [List.length_set] at hil
    have hkeep : ∀ {x : Value} {ys : List Int}, OwnI w lo hi x ys → OwnI (w.setCell ⟨g, j, none⟩ u) lo hi x ys := fun {x ys} ho => by
      refine ⟨⟨ho.1.1, ?_⟩, ho.2⟩
      have hne := ne_block h1 ho
      rcases ho.1.2 with h0 | ⟨g', cap, cur, hv, hgb, hg, r⟩
      · exact .inl h0
      · exact .inr ⟨g', cap, cur, hv, hgb, by rw [Below.heap_setCell _ _ _ _ (by rintro rfl; exact hne (by rw [hv]; rfl))]; exact hg, r⟩
    rw [rx_set hj]
    by_cases e : i = j
    · subst e
      exact ⟨u, by rw [List.getElem?_set_self (by omega)], by rw [if_pos rfl]; exact hkeep hu⟩
    · obtain ⟨x, e1, ho⟩ := h3 i hil
      exact ⟨x, by rw [List.getElem?_set_ne (by omega)]; exact e1, by rw [if_neg e]; exact hkeep ho⟩
  · have hk : k < vs.length := by
      have := (List.getElem?_eq_some_iff.1 hb).1
      simpa using this
    by_cases e : i = j
    · subst e
      rw [List.getElem?_set_self (by omega)] at ha
      rw [List.getElem?_set_ne (by omega)] at hb
      cases ha
      obtain ⟨x, e1, ho⟩ := h3 k (by omega)
      rw [hb] at e1
      cases e1
      obtain ⟨A', c', rfl, _⟩ := ho.len
      rcases hfresh k A' c' (by omega) (by omega) (hcell k _ (by omega) hb) with h0 | h0
      · exact .inl h0
      · exact .inr (Ne.symm h0)
    · rw [List.getElem?_set_ne (by omega)] at ha
      by_cases e' : k = j
      · subst e'
        rw [List.getElem?_set_self (by omega)] at hb
        cases hb
        obtain ⟨x, e1, ho⟩ := h3 i (by omega)
        rw [ha] at e1
        cases e1
        obtain ⟨A', c', rfl, _⟩ := ho.len
        rcases hfresh i A' c' (by omega) (by omega) (hcell i _ (by omega) ha) with h0 | h0
        · cases hx : (Value.slice A' (rx xss i).length c').ownBlock with
          | none => exact .inl rfl
          | some b => right; rw [h0]; simp
        · exact .inr h0
      · rw [List.getElem?_set_ne (by omega)] at hb
        exact h4 i k a b hik ha hb

theorem OwnI.tight {g c : Nat} (h : OwnI w lo hi (.slice (some ⟨g, 0, none⟩) n c) xs) : OwnI w g (g + 1) (.slice (some ⟨g, 0, none⟩) n c) xs := by
  refine ⟨⟨h.1.1, ?_⟩, fun k e => by simp [Value.ownBlock] at e; omega⟩
  rcases h.1.2 with ⟨e, _⟩ | ⟨g', cap, cur, hv, hgb, r⟩
  · cases e
  · cases hv
    exact .inr ⟨g, _, cur, rfl, Nat.le_refl _, r⟩
theorem OwnI.none_ {c : Nat} (h : OwnI w lo hi (.slice none n c) xs) : xs = [] ∧ n = 0 ∧ c = 0 := by
  rcases h.1.2 with ⟨e, h0⟩ | ⟨g', cap, cur, hv, hgb, r⟩
  · cases e
    exact ⟨List.eq_nil_of_length_eq_zero h0, rfl, rfl⟩
  · cases hv

/-- a row's numbers are changed in place -/
theorem OwnR.inner {g b m c' : Nat} {ys : List Int} (h : OwnR w lo hi (.slice (some ⟨g, 0, none⟩) n c) xss) (j : Nat) (hj : j < n) (hc : w.cell? ⟨g, j, none⟩ = some (.slice (some ⟨b, 0, none⟩) m c'))
    (ho : Only b (b + 1) w w') (hnew : OwnI w' b (b + 1) (.slice (some ⟨b, 0, none⟩) m c') ys) : OwnR w' lo hi (.slice (some ⟨g, 0, none⟩) n c) (xss.set j ys) := by
  obtain rfl := h.num.1
  obtain ⟨vs, h1, h2, h3, h4⟩ := h
  have hlen : vs.length = xss.length := by have := h1.1; omega
  obtain ⟨x, e1, hox⟩ := h3 j hj
  have hx : x = .slice (some ⟨b, 0, none⟩) m c' := by
    rw [World.ownsRow.cellAt h1 j (by omega), e1] at hc
    simpa using hc
  subst hx
  have hb := hox.block_ge b rfl
  refine ⟨vs, ⟨by rw [List.length_set]; exact h1.1, ?_⟩, h2, fun i hi' => ?_, h4⟩
  · rcases h1.2 with ⟨e, _⟩ | ⟨g', cap, cur, hv, hgb, hg, r⟩
    · cases e
    · cases hv
      have hne := ne_block h1 hox
      refine .inr ⟨g, c, cur, by rw [List.length_set], hgb, ?_, by rw [List.length_set]; exact r⟩
      rw [ho.block g (Array.getElem?_eq_some_iff.1 hg).1 (fun e => hne (by simp [Value.ownBlock]; omega))]
      exact hg
  · rw [List.length_set] at hi'
    rw [rx_set hj]
    by_cases e : i = j
    · subst e
      exact ⟨_, e1, by rw [if_pos rfl]; exact hnew.mono hb.1 (by omega)⟩
    · obtain ⟨y, e2, hoy⟩ := h3 i hi'
      refine ⟨y, e2, ?_⟩
      rw [if_neg e]
      refine ⟨⟨hoy.1.1, ?_⟩, hoy.2⟩
      rcases hoy.1.2 with h0 | ⟨g', cap, cur, hv, hgb, hg', r⟩
      · exact .inl h0
      · have hne : g' ≠ b := by
          rintro rfl
          rcases Nat.lt_or_gt_of_ne e with hl | hl
          · have := h4 i j _ _ hl e2 e1
            rw [hv] at this
            simp [Value.ownBlock] at this
          · have := h4 j i _ _ hl e1 e2
            rw [hv] at this
            simp [Value.ownBlock] at this
        exact .inr ⟨g', cap, cur, hv, hgb, by rw [ho.block g' (Array.getElem?_eq_some_iff.1 hg').1 (by omega)]; exact hg', r⟩

theorem set_same {j : Nat} (hj : j < xss.length) (e : rx xss j = xs) : xss.set j xs = xss := by
  subst e
  rw [rx_lt hj]
  exact List.set_getElem_self hj

theorem OwnR.inner_any {g m c' l2 h2 : Nat} {A2 : Option Addr} {ys : List Int} (h : OwnR w lo hi (.slice (some ⟨g, 0, none⟩) n c) xss) (j : Nat) (hj : j < n) (hc : w.cell? ⟨g, j, none⟩ = some (.slice A2 m c'))
    (ho : Only l2 h2 w w') (hnew : OwnI w' l2 h2 (.slice A2 m c') ys) (hA : (A2 = none ∧ l2 = h2) ∨ ∃ b, A2 = some ⟨b, 0, none⟩ ∧ l2 = b ∧ h2 = b + 1) : OwnR w' lo hi (.slice (some ⟨g, 0, none⟩) n c) (xss.set j ys) := by
  rcases hA with ⟨rfl, rfl⟩ | ⟨b, rfl, rfl, rfl⟩
  · obtain ⟨rfl, rfl, rfl⟩ := hnew.none_
    obtain ⟨_, A3, c3, e, hoj⟩ := h.row j hj
    rw [hc] at e
    injection e with e
    injection e with e1 e2 e3
    subst e1
    have e4 := hoj.none_.1
    obtain rfl := h.num.1
    rw [set_same hj e4]
    exact h.keep fun k _ _ hs => ho.block k hs (by omega)
  · exact h.inner j hj hc ho hnew

/-- the outer row's block is no inner row's -/
theorem OwnR.not_inner {g m c' : Nat} {A2 : Option Addr} (h : OwnR w lo hi (.slice (some ⟨g, 0, none⟩) n c) xss) (j : Nat) (hj : j < n) (hc : w.cell? ⟨g, j, none⟩ = some (.slice A2 m c')) {l2 h2 : Nat}
    (hA : (A2 = none ∧ l2 = h2) ∨ ∃ b, A2 = some ⟨b, 0, none⟩ ∧ l2 = b ∧ h2 = b + 1) : ¬ (l2 ≤ g ∧ g < h2) := by
  obtain rfl := h.num.1
  obtain ⟨_, A3, c3, e, ho⟩ := h.row j hj
  rw [hc] at e
  injection e with e
  injection e with e1 e2 e3
  subst e1
  obtain ⟨vs, h1, _⟩ := h
  have hne := ne_block h1 ho
  rcases hA with ⟨rfl, e⟩ | ⟨b, rfl, rfl, rfl⟩
  · omega
  · intro hl
    exact hne (by simp [Value.ownBlock]; omega)

/-- row j is replaced by a slice that grew out of it, or that was made behind all that is there -/
theorem OwnR.over {g m c' l2 h2 hi' : Nat} {A2 : Option Addr} {ys : List Int} (h : OwnR w lo hi (.slice (some ⟨g, 0, none⟩) n c) xss) (j : Nat) (hj : j < n) (hc : w.cell? ⟨g, j, none⟩ = some (.slice A2 m c'))
    (ho : Only l2 h2 w w') (hA : (A2 = none ∧ l2 = h2) ∨ ∃ b, A2 = some ⟨b, 0, none⟩ ∧ l2 = b ∧ h2 = b + 1) (hu : OwnI w' lo hi' u ys)
    (hblk : u.ownBlock = (Value.slice A2 m c').ownBlock ∨ ∀ k, u.ownBlock = some k → hi ≤ k) (hh : hi ≤ hi') :
    OwnR (w'.setCell ⟨g, j, none⟩ u) lo hi' (.slice (some ⟨g, 0, none⟩) n c) (xss.set j ys) ∧ Only g (g + 1) w' (w'.setCell ⟨g, j, none⟩ u) := by
  obtain rfl := h.num.1
  obtain ⟨vs, h1, h2', h3, h4⟩ := h
  have hlen : vs.length = xss.length := by have := h1.1; omega
  obtain ⟨x, e1, hox⟩ := h3 j hj
  have hx : x = .slice A2 m c' := by
    rw [World.ownsRow.cellAt h1 j (by omega), e1] at hc
    simpa using hc
  subst hx
  have hnot : ∀ k, (Value.slice A2 m c').ownBlock ≠ some k → ¬ (l2 ≤ k ∧ k < h2) := fun k hk hl => by
    rcases hA with ⟨rfl, e⟩ | ⟨b, rfl, rfl, rfl⟩
    · omega
    · exact hk (by simp [Value.ownBlock]; omega)
  have h1' : w'.ownsRow lo 27 1 (.slice (some ⟨g, 0, none⟩) xss.length c) xss.length vs := by
    refine ⟨h1.1, ?_⟩
    rcases h1.2 with ⟨e, _⟩ | ⟨g', cap, cur, hv, hgb, hg, r⟩
    · cases e
    · cases hv
      have hne := ne_block h1 hox
      refine .inr ⟨g, c, cur, rfl, hgb, ?_, r⟩
      rw [ho.block g (Array.getElem?_eq_some_iff.1 hg).1 (hnot g hne)]
      exact hg
  have hst := World.ownsRow.stored h1' j u
  have hkeep : ∀ {x : Value} {zs : List Int}, OwnI w' lo hi' x zs → OwnI (w'.setCell ⟨g, j, none⟩ u) lo hi' x zs := fun {x zs} ho => by
    refine ⟨⟨ho.1.1, ?_⟩, ho.2⟩
    have hne := ne_block h1' ho
    rcases ho.1.2 with h0 | ⟨g', cap, cur, hv, hgb, hg, r⟩
    · exact .inl h0
    · exact .inr ⟨g', cap, cur, hv, hgb, by rw [Below.heap_setCell _ _ _ _ (by rintro rfl; exact hne (by rw [hv]; rfl))]; exact hg, r⟩
  have hother : ∀ i x zs, i ≠ j → vs[i]? = some x → OwnI w lo hi x zs → OwnI w' lo hi' x zs := fun i x zs hij e2 hoy => by
    refine OwnI.mono (lo := lo) (hi := hi) ?_ (Nat.le_refl _) hh
    refine ⟨⟨hoy.1.1, ?_⟩, hoy.2⟩
    rcases hoy.1.2 with h0 | ⟨g', cap, cur, hv, hgb, hg', r⟩
    · exact .inl h0
    · refine .inr ⟨g', cap, cur, hv, hgb, ?_, r⟩
      rw [ho.block g' (Array.getElem?_eq_some_iff.1 hg').1 (hnot g' fun e => ?_)]
      · exact hg'
      · rcases Nat.lt_or_gt_of_ne hij with hl | hl
        · have := h4 i j _ _ hl e2 e1
          rw [hv, e] at this
          simp [Value.ownBlock] at this
        · have := h4 j i _ _ hl e1 e2
          rw [hv, e] at this
          simp [Value.ownBlock] at this
  have hap : ∀ i x zs, i ≠ j → vs[i]? = some x → OwnI w lo hi x zs → u.ownBlock = none ∨ x.ownBlock ≠ u.ownBlock := fun i x zs hij e2 hoy => by
    rcases hblk with hb | hb
    · rw [hb]
      rcases Nat.lt_or_gt_of_ne hij with hl | hl
      · rcases h4 i j _ _ hl e2 e1 with h0 | h0
        · rw [h0]
          cases hx : (Value.slice A2 m c').ownBlock with
          | none => exact .inl rfl
          | some k => exact .inr (by simp)
        · exact .inr h0
      · rcases h4 j i _ _ hl e1 e2 with h0 | h0
        · exact .inl h0
        · exact .inr (Ne.symm h0)
    · cases hx : u.ownBlock with
      | none => exact .inl rfl
      | some k =>
        right
        intro e
        have a1 := (hoy.block_ge k e).2
        have a2 := hb k hx
        omega
  refine ⟨⟨vs.set j u, by rw [List.length_set]; exact hst.1, fun k hk => by have := h2' k hk; omega, fun i hil => ?_, fun i k a b hik ha hb => ?_⟩, Only.of_grown hst.2 fun k e => by cases e; omega⟩
  · rw [List.length_set] at hil
    rw [rx_set hj]
    by_cases e : i = j
    · subst e
      exact ⟨u, by rw [List.getElem?_set_self (by omega)], by rw [if_pos rfl]; exact hkeep hu⟩
    · obtain ⟨x, e1, ho⟩ := h3 i hil
      exact ⟨x, by rw [List.getElem?_set_ne (by omega)]; exact e1, by rw [if_neg e]; exact hkeep (hother i x _ e e1 ho)⟩
  · have hk : k < vs.length := by
      have := (List.getElem?_eq_some_iff.1 hb).1
      simpa using this
    by_cases e : i = j
    · subst e
      rw [List.getElem?_set_self (by omega)] at ha
      rw [List.getElem?_set_ne (by omega)] at hb
      cases ha
      obtain ⟨x, e2, ho⟩ := h3 k (by omega)
      rw [hb] at e2
      cases e2
      rcases hap k b _ (by omega) hb ho with h0 | h0
      · exact .inl h0
      · exact .inr (Ne.symm h0)
    · rw [List.getElem?_set_ne (by omega)] at ha
      by_cases e' : k = j
      · subst e'
        rw [List.getElem?_set_self (by omega)] at hb
        cases hb
        obtain ⟨x, e2, ho⟩ := h3 i (by omega)
        rw [ha] at e2
        cases e2
        rcases hap i a _ e ha ho with h0 | h0
        · cases hx : a.ownBlock with
          | none => exact .inl rfl
          | some b => right; rw [h0]; simp
        · exact .inr h0
      · rw [List.getElem?_set_ne (by omega)] at hb
        exact h4 i k a b hik ha hb

/-- the tightest range of a slice of the call's own -/
theorem OwnI.tight_any {m c' : Nat} {A2 : Option Addr} (h : OwnI w lo hi (.slice A2 m c') xs) : ∃ l2 h2, OwnI w l2 h2 (.slice A2 m c') xs ∧ lo ≤ l2 ∧ (h2 ≤ hi ∨ l2 = h2) ∧ (l2 = lo ∨ l2 < w.heap.size) ∧ ((A2 = none ∧ l2 = h2) ∨ ∃ b, A2 = some ⟨b, 0, none⟩ ∧ l2 = b ∧ h2 = b + 1) := by
  cases A2 with
  | none =>
    obtain ⟨rfl, rfl, rfl⟩ := h.none_
    exact ⟨lo, lo, OwnI.nil _ _ _, Nat.le_refl _, .inr rfl, .inl rfl, .inl ⟨rfl, rfl⟩⟩
  | some a =>
    obtain ⟨b, rfl, h1, h2, h3⟩ := h.ints.2.2.2 _ rfl
    exact ⟨b, b + 1, h.tight, h1, .inl (by omega), .inr h3, .inr ⟨b, rfl, rfl, rfl⟩⟩

/-- .. one that was made behind all that is there -/
theorem OwnR.stored_new {g l2 h2 : Nat} (h : OwnR w lo hi (.slice (some ⟨g, 0, none⟩) n c) xss) (j : Nat) (hj : j < n) (hu : OwnI w l2 h2 u xs) (hl : hi ≤ l2) (hlo : lo ≤ l2) (hh : hi ≤ h2) :
    OwnR (w.setCell ⟨g, j, none⟩ u) lo h2 (.slice (some ⟨g, 0, none⟩) n c) (xss.set j xs) ∧ Only g (g + 1) w (w.setCell ⟨g, j, none⟩ u) := by
  refine (h.mono (Nat.le_refl _) hh).stored j hj (hu.mono hlo (Nat.le_refl _)) fun i A' c' _ hi' hc => ?_
  obtain ⟨_, A2, c2, e, ho⟩ := h.row i hi'
  rw [hc] at e
  cases e
  cases hx : u.ownBlock with
  | none => exact .inl rfl
  | some k =>
    right
    intro e
    have a1 := (ho.block_ge k e).2
    have a2 := (hu.block_ge k hx).1
    omega
end

section
variable {ops : Array Oper} {rest : List Oper} {o : Oper} {a : Act} {Q : Exit → Act → World → Prop}

/-- 'make([][]int, n)' -/
theorem wpList_make_rows (w : World) (hg : o.guard = none) (l c : Operand) (hop : o.op = Op.makeSlice 98 l c) (n : Nat)
    (hl : a.eval l = .int .i64 (n : Int)) (hc : a.eval c = .int .i64 (n : Int)) (hn : n ≤ 1099511627776)
    (hK : ∀ w', OwnR w' w.heap.size (w.heap.size + 1) (.slice (some ⟨w.heap.size, 0, none⟩) n n) (List.replicate n []) → Below w.heap.size w w' → w'.heap.size = w.heap.size + 1 → wpList Tryz.prog ops Q rest (a.put o.dst (.slice (some ⟨w.heap.size, 0, none⟩) n n)) w') :
    wpList Tryz.prog ops Q (o :: rest) a w := by
  obtain ⟨i0, hi, hz0, hz1, hz2⟩ := info_parts infoR
  refine wpList_plain hg fun K hK' => ?_
  have hrun := run_make (P := Tryz.prog) w 98 27 i0 (.slice none 0 0) Tryz.underlying98 hi hz0 .i64 .i64 n n (by omega) (by omega) (by rw [hz2]; omega) (by omega)
  simp only [Int.toNat_natCast, hz1, Nat.mul_one] at hrun
  unfold Oper.wp
  simp [execOp, hop, hl, hc, hrun, Result.andThen]
  refine hK' _ _ (hK _ ⟨List.replicate n (.slice none 0 0), ?_, fun k e => by simp [Value.ownBlock] at e; omega, fun i hi => ⟨.slice none 0 0, ?_, ?_⟩, fun i j u u' _ h1 _ => .inl ?_⟩ ((Below.refl _ _).alloc (Nat.le_refl _) _) (by simp))
  · have h1 := World.ownsRow_lit (e := 27) (size := 1) (base := w.heap.size) w (madeCells #[Value.slice none 0 0] n) n (Nat.le_refl _) (by unfold maxLen; omega) (by simp [size_madeCells])
    rw [toList_madeCells_one] at h1
    simpa [Value.cells] using h1
  · simp at hi; simp [hi]
  · have e : rx (List.replicate n []) i = [] := by simp at hi; unfold rx; simp [List.getD, hi]
    rw [e]
    exact OwnI.nil _ _ _
  · have := List.mem_of_getElem? h1
    rw [List.eq_of_mem_replicate this]
    rfl

/-- 'out = append(out, row)', out nil or the call's own, row a slice of the call's own that lies in no block of out's rows -/
theorem wpList_append_row (w : World) (hg : o.guard = none) (s x : Operand) (hop : o.op = Op.call { callee := Callee.builtin Builtin.append, args := #[s, x], argTypes := #[98, 98] })
    (lo hi n c : Nat) (A : Option Addr) (xss : List (List Int)) (hs : a.eval s = .slice A n c) (hown : OwnR w lo hi (.slice A n c) xss)
    (A' : Option Addr) (m c' : Nat) (xs : List Int) (l2 h2 : Nat) (hu : OwnI w l2 h2 (.slice A' m c') xs) (hl2 : hi ≤ l2) (hh2 : h2 ≤ w.heap.size)
    (b cc : Nat) (hx : a.eval x = .slice (some ⟨b, 0, none⟩) 1 cc) (hcell : w.cell? ⟨b, 0, none⟩ = some (.slice A' m c')) (hn : n ≤ 1099511627776) (hbase : lo ≤ hi) (hlw : lo ≤ w.heap.size)
    (hK : ∀ A'' c'' w', OwnR w' lo w'.heap.size (.slice A'' (n + 1) c'') (xss ++ [xs]) → Only lo hi w w' → wpList Tryz.prog ops Q rest (a.put o.dst (.slice A'' (n + 1) c'')) w') :
    wpList Tryz.prog ops Q (o :: rest) a w := by
  obtain ⟨i0, hi0, hz0, hz1, hz2⟩ := info_parts infoR
  obtain rfl := hown.num.1
  obtain rfl := hu.ints.2.1
  have hbelow := hown
  obtain ⟨vs, h1, h2', h3, h4⟩ := hown
  have hlen : vs.length = xss.length := by have := h1.1; omega
  have hge : ∀ k, (Value.slice A xss.length c).ownBlock = some k → lo ≤ k ∧ k < hi := fun k e => ⟨(World.ownsRow.lt h1 k e).1, h2' k e⟩
  refine wpList_append_own_at w hg s x 98 hop lo 27 i0 (.slice none 0 0) 1 24 Tryz.underlying98 hi0 hz0 hz1 hz2 rfl (by decide) _ xss.length _ hs h1 ⟨b, 0, none⟩ 1 cc [.slice A' xs.length c'] hx rfl ?_ ?_ (by unfold maxLen; omega) (by omega) (by omega) ?_
  · intro j u hj
    match j, hj with
    | 0, hj => simp at hj; subst hj; simpa [Addr.add] using hcell
  · intro u hu; simp at hu; subst hu; rfl
  · intro v' w' hown' hgrow _ hat
    have hu' : ∀ {l h : Nat} {y : Value} {ys : List Int}, OwnI w l h y ys → h ≤ w.heap.size → OwnI w' l h y ys := fun {l h y ys} ho hle => by
      refine ⟨⟨ho.1.1, ?_⟩, ho.2⟩
      rcases ho.1.2 with h0 | ⟨g', cap, cur, hv, hgb, hg', r⟩
      · exact .inl h0
      · refine .inr ⟨g', cap, cur, hv, hgb, ?_, r⟩
        rw [hgrow.block g' (Array.getElem?_eq_some_iff.1 hg').1 ?_]
        · exact hg'
        · intro e
          rcases h1.2 with ⟨e0, _⟩ | ⟨g, cap1, cur1, e0, _, hg1, _⟩
          · rw [e0] at e; simp [Value.ownBlock] at e
          · have hne := ne_block (by rw [← e0]; exact h1) ho
            rw [hv] at hne
            rw [e0] at e
            exact hne e
    have h5 : OwnR w' lo w'.heap.size v' (xss ++ [xs]) := by
      refine ⟨vs ++ [.slice A' xs.length c'], by rw [List.length_append]; exact hown', fun k e => (World.ownsRow.lt hown' k e).2, fun i hi' => ?_, fun i j u u' hij e1 e2 => ?_⟩
      · by_cases e : i < xss.length
        · obtain ⟨u, e1, ho⟩ := h3 i e
          refine ⟨u, by rw [List.getElem?_append_left (by omega)]; exact e1, ?_⟩
          have er : rx (xss ++ [xs]) i = rx xss i := by unfold rx; simp [List.getD, List.getElem?_append_left e]
          rw [er]
          have hih : hi ≤ w'.heap.size ∨ w'.heap.size < hi := by omega
          have hk := hu' (h := w.heap.size) ⟨ho.1, fun k e => (World.ownsRow.lt ho.1 k e).2⟩ (Nat.le_refl _)
          exact hk.mono (Nat.le_refl _) hgrow.size
        · have ei : i = xss.length := by simp at hi'; omega
          subst ei
          refine ⟨.slice A' xs.length c', by rw [List.getElem?_append_right (by omega)]; simp [hlen], ?_⟩
          have er : rx (xss ++ [xs]) xss.length = xs := by unfold rx; simp [List.getD]
          rw [er]
          exact (hu' hu hh2).mono (by omega) (Nat.le_trans hh2 hgrow.size)
      · have hj : j < vs.length + 1 := by have := (List.getElem?_eq_some_iff.1 e2).1; simpa using this
        rw [List.getElem?_append_left (by omega)] at e1
        by_cases ej : j < vs.length
        · rw [List.getElem?_append_left ej] at e2
          exact h4 i j u u' hij e1 e2
        · rw [List.getElem?_append_right (by omega)] at e2
          have : j - vs.length = 0 := by omega
          rw [this] at e2
          simp at e2
          subst e2
          obtain ⟨x, e3, ho⟩ := h3 i (by omega)
          rw [e1] at e3
          cases e3
          cases hx : u.ownBlock with
          | none => exact .inl rfl
          | some k1 =>
            right
            intro e4
            have a1 := (ho.block_ge k1 hx).2
            have a2 := (hu.block_ge k1 e4.symm).1
            omega
    obtain ⟨A'', c'', e, _⟩ := h5.len
    rw [List.length_append] at e
    subst e
    exact hK A'' c'' w' h5 (Only.of_grown hgrow hge)
end
end Go.Proofs.YtaanppihgldeaaaGreatDoor
namespace Go.Proofs.YtaanppihgldeaaaGreatDoor
set_option linter.unusedSimpArgs false
set_option linter.unusedVariables false
set_option linter.unusedVariables false
open Go.RowKit

theorem infoS : (Tryz.prog.info? 9).map (fun i => (i.zero, i.size, i.bytes)) = some (some (.string ⟨#[]⟩), 1, 16) := by kernel_rfl
def sx (ts : List ByteArray) (j : Nat) : ByteArray := ts.getD j ⟨#[]⟩
theorem sx_lt {ts : List ByteArray} {j : Nat} (h : j < ts.length) : sx ts j = ts[j] := by unfold sx; simp [List.getD, h]
/-- the strings ts lie at A -/
def StrsAt (w : World) (A : Option Addr) (n : Nat) (ts : List ByteArray) : Prop := ts.length = n ∧ (0 < n → ∃ b o, A = some ⟨b, o, none⟩ ∧ ∀ j, j < n → w.cell? ⟨b, o + j, none⟩ = some (.string (sx ts j)))
/-- a row of strings of the call's own, in a block from lo on -/
def OwnS (w : World) (lo : Nat) (v : Value) (ts : List ByteArray) : Prop := w.ownsRow lo 9 1 v ts.length (ts.map Value.string)
theorem StrsAt.at_ {w : World} {A : Option Addr} {n k : Nat} {ts : List ByteArray} (h : StrsAt w A n ts) (hk : k < n) : ∃ b o, A = some ⟨b, o, none⟩ ∧ b < w.heap.size ∧ ∀ j, j < n → w.cell? ⟨b, o + j, none⟩ = some (.string (sx ts j)) := by
  obtain ⟨b, o, e, hc⟩ := h.2 (by omega)
  exact ⟨b, o, e, cell_lt (hc 0 (by omega)), hc⟩
theorem StrsAt.below {w w' : World} {A : Option Addr} {n : Nat} {ts : List ByteArray} (h : StrsAt w A n ts) (hb : Below w.heap.size w w') : StrsAt w' A n ts := by
  refine ⟨h.1, fun hn => ?_⟩
  obtain ⟨b, o, e, hc⟩ := h.2 hn
  exact ⟨b, o, e, fun j hj => (hb.cell (p := ⟨b, o + j, none⟩) (cell_lt (hc j hj))).trans (hc j hj)⟩
theorem OwnS.belowW {w w' : World} {lo : Nat} {v : Value} {ts : List ByteArray} (h : OwnS w lo v ts) (hb : Below w.heap.size w w') : OwnS w' lo v ts := by
  refine ⟨h.1, ?_⟩
  rcases h.2 with h0 | ⟨g', cap, cur, hv, hgb, hg', r⟩
  · exact .inl h0
  · exact .inr ⟨g', cap, cur, hv, hgb, by rw [hb.block g' (Array.getElem?_eq_some_iff.1 hg').1]; exact hg', r⟩
theorem OwnS.nil (w : World) (lo : Nat) : OwnS w lo (.slice none 0 0) [] := World.ownsRow_nil _ _ _ _
theorem OwnS.form {w : World} {lo : Nat} {v : Value} {ts : List ByteArray} (h : OwnS w lo v ts) : ∃ A c, v = .slice A ts.length c ∧ ts.length ≤ c ∧ StrsAt w A ts.length ts := by
  rcases h.2 with ⟨e, h0⟩ | ⟨g, cap, cur, e, hgb, hg, r⟩
  · exact ⟨none, 0, by rw [e, h0], by omega, rfl, fun hn => absurd hn (by omega)⟩
  · subst e
    have h' : w.ownsRow lo 9 1 (.slice (some ⟨g, 0, none⟩) ts.length cap) ts.length (ts.map Value.string) := h
    refine ⟨some ⟨g, 0, none⟩, cap, rfl, ?_, rfl, fun hn => ⟨g, 0, rfl, fun j hj => ?_⟩⟩
    · exact r.1
    · have := World.ownsRow.cellAt h' j (by omega)
      rw [Nat.zero_add, this]
      simp [hj, sx_lt hj]
theorem OwnS.slice {w : World} {lo n c : Nat} {A : Option Addr} {ts : List ByteArray} (h : OwnS w lo (.slice A n c) ts) : ts.length = n ∧ n ≤ c ∧ StrsAt w A n ts := by
  obtain ⟨A', c', e, hc, hs⟩ := h.form
  cases e
  exact ⟨rfl, hc, hs⟩
theorem OwnS.empty (w : World) {lo : Nat} (hl : lo ≤ w.heap.size) : OwnS (w.alloc (.cells #[] 9)) lo (.slice (some ⟨w.heap.size, 0, none⟩) 0 0) [] := by
  refine ⟨rfl, .inr ⟨w.heap.size, 0, _, rfl, hl, heap_alloc_new w _, Nat.zero_le _, by unfold maxLen; omega, ?_, by simp⟩⟩
  simp

section
variable {ops : Array Oper} {rest : List Oper} {o : Oper} {a : Act} {Q : Exit → Act → World → Prop}
/-- 'out = append(out, s)', out nil or the call's own -/
theorem wpList_append_str (w : World) (hg : o.guard = none) (s x : Operand) (hop : o.op = Op.call { callee := Callee.builtin Builtin.append, args := #[s, x], argTypes := #[45, 45] })
    (lo n c : Nat) (A : Option Addr) (ts : List ByteArray) (hs : a.eval s = .slice A n c) (hown : OwnS w lo (.slice A n c) ts)
    (y : ByteArray) (b cc : Nat) (hx : a.eval x = .slice (some ⟨b, 0, none⟩) 1 cc) (hcell : w.cell? ⟨b, 0, none⟩ = some (.string y)) (hn : n ≤ 1048576) (hbase : lo ≤ w.heap.size)
    (hK : ∀ A' c' w', OwnS w' lo (.slice A' (n + 1) c') (ts ++ [y]) → w.grownBy w' (Value.slice A n c).ownBlock → wpList Tryz.prog ops Q rest (a.put o.dst (.slice A' (n + 1) c')) w') :
    wpList Tryz.prog ops Q (o :: rest) a w := by
  obtain ⟨i0, hi0, hz0, hz1, hz2⟩ := info_parts infoS
  obtain rfl := hown.slice.1
  refine wpList_append_own_at w hg s x 45 hop lo 9 i0 (.string ⟨#[]⟩) 1 16 Tryz.underlying45 hi0 hz0 hz1 hz2 rfl (by decide) _ ts.length _ hs hown ⟨b, 0, none⟩ 1 cc [.string y] hx rfl ?_ ?_ (by unfold maxLen; omega) (by omega) hbase ?_
  · intro j u hj
    match j, hj with
    | 0, hj => simp at hj; subst hj; simpa [Addr.add] using hcell
  · intro u hu; simp at hu; subst hu; rfl
  · intro v' w' hown' hgrow _ hat
    have h2 : OwnS w' lo v' (ts ++ [y]) := by
      unfold OwnS
      rw [List.map_append, List.length_append]
      exact hown'
    obtain ⟨A', c', e, _⟩ := h2.form
    rw [List.length_append] at e
    subst e
    exact hK A' c' w' h2 hgrow
/-- 'out = append(out, ys...)' -/
theorem wpList_append_strs (w : World) (hg : o.guard = none) (s x : Operand) (hop : o.op = Op.call { callee := Callee.builtin Builtin.append, args := #[s, x], argTypes := #[45, 45] })
    (lo n c : Nat) (A : Option Addr) (ts : List ByteArray) (hs : a.eval s = .slice A n c) (hown : OwnS w lo (.slice A n c) ts)
    (b oo m cc : Nat) (ys : List ByteArray) (hx : a.eval x = .slice (some ⟨b, oo, none⟩) m cc) (hm : ys.length = m) (hcell : ∀ j, j < m → w.cell? ⟨b, oo + j, none⟩ = some (.string (sx ys j))) (hn : n + m ≤ 1048576) (hbase : lo ≤ w.heap.size)
    (hK : ∀ A' c' w', OwnS w' lo (.slice A' (n + m) c') (ts ++ ys) → w.grownBy w' (Value.slice A n c).ownBlock → wpList Tryz.prog ops Q rest (a.put o.dst (.slice A' (n + m) c')) w') :
    wpList Tryz.prog ops Q (o :: rest) a w := by
  obtain ⟨i0, hi0, hz0, hz1, hz2⟩ := info_parts infoS
  obtain rfl := hown.slice.1
  subst hm
  refine wpList_append_own_at w hg s x 45 hop lo 9 i0 (.string ⟨#[]⟩) 1 16 Tryz.underlying45 hi0 hz0 hz1 hz2 rfl (by decide) _ ts.length _ hs hown ⟨b, oo, none⟩ ys.length cc (ys.map Value.string) hx (by simp) ?_ ?_ (by unfold maxLen; omega) (by omega) hbase ?_
  · intro j u hj
    have hjl : j < ys.length := by
      have := (List.getElem?_eq_some_iff.1 hj).1
      simpa using this
    rw [Addr.add_lit, hcell j hjl, sx_lt hjl]
    simp [hjl] at hj
    rw [hj]
  · intro u hu
    obtain ⟨y, _, rfl⟩ := List.mem_map.1 hu
    rfl
  · intro v' w' hown' hgrow _ hat
    have h2 : OwnS w' lo v' (ts ++ ys) := by
      unfold OwnS
      rw [List.map_append, List.length_append]
      exact hown'
    obtain ⟨A', c', e, _⟩ := h2.form
    rw [List.length_append] at e
    subst e
    exact hK A' c' w' h2 hgrow
end

/-- the text of a ranking, as numbers of its letters; and the strings of rows -/
def rankNums (xs : List Int) : List Int := xs.map (97 + ·)
def textsOf (xss : List (List Int)) : List ByteArray := xss.map fun xs => strOfNums (rankNums xs)
theorem str_append (a b : List Int) : strOfNums a ++ strOfNums b = strOfNums (a ++ b) := by
  unfold strOfNums
  apply ByteArray.ext
  simp
theorem textsOf_take {xss : List (List Int)} {k : Nat} (h : k < xss.length) : textsOf (xss.take (k + 1)) = textsOf (xss.take k) ++ [strOfNums (rankNums (rx xss k))] := by
  unfold textsOf; rw [take_rx h]; simp
theorem textsOf_len (xss : List (List Int)) : (textsOf xss).length = xss.length := by simp [textsOf]
end Go.Proofs.YtaanppihgldeaaaGreatDoor
namespace Go.Proofs.YtaanppihgldeaaaGreatDoor
set_option linter.unusedSimpArgs false
set_option linter.unusedVariables false
set_option linter.unusedVariables false
open Go.RowKit

/-- lo ≤ n ≤ hi -/
def inB (n lo hi : Int) : Bool := decide (lo ≤ n) && decide (n ≤ hi)
theorem inB_iff {n lo hi : Int} : inB n lo hi = true ↔ lo ≤ n ∧ n ≤ hi := by simp [inB]
theorem inB_not {n lo hi : Int} : inB n lo hi = false ↔ n < lo ∨ hi < n := by simp only [inB, Bool.and_eq_false_iff, decide_eq_false_iff_not]; omega
theorem within_any (n lo hi : Int) (w : World) : Calls Tryz.prog 33 #[.int .i64 n, .int .i64 lo, .int .i64 hi] w fun e w' => e = .returned (.bool (inB n lo hi)) ∧ w = w' := by
  unfold inB
  by_cases h1 : lo ≤ n
  · go_enter Tryz.func33, Tryz.ntmps33
    go_wp2
    all_goals go_ret
    all_goals exact ⟨(ret_b (by first | rfl | (simp; done) | (simp [*]; done) | (rw [Bool.eq_iff_iff]; simp; omega) | (rw [Bool.eq_iff_iff]; simp [*]; omega) | (simp [*]; omega))), rfl⟩
  · have h2 : n < lo := by omega
    go_enter Tryz.func33, Tryz.ntmps33
    go_wp2
    all_goals go_ret
    all_goals exact ⟨(ret_b (by first | rfl | (simp; done) | (simp [*]; done) | (rw [Bool.eq_iff_iff]; simp; omega) | (rw [Bool.eq_iff_iff]; simp [*]; omega) | (simp [*]; omega))), rfl⟩
theorem l01In_any (n lo hi : Int) (w : World) : Calls Tryz.prog 48 #[.int .i64 n, .int .i64 lo, .int .i64 hi] w fun e w' => e = .returned (.bool (inB n lo hi)) ∧ w = w' := by
  unfold inB
  by_cases h1 : lo ≤ n
  · go_enter Tryz.func48, Tryz.ntmps48
    go_wp2
    all_goals go_ret
    all_goals exact ⟨(ret_b (by first | rfl | (simp; done) | (simp [*]; done) | (rw [Bool.eq_iff_iff]; simp; omega) | (rw [Bool.eq_iff_iff]; simp [*]; omega) | (simp [*]; omega))), rfl⟩
  · have h2 : n < lo := by omega
    go_enter Tryz.func48, Tryz.ntmps48
    go_wp2
    all_goals go_ret
    all_goals exact ⟨(ret_b (by first | rfl | (simp; done) | (simp [*]; done) | (rw [Bool.eq_iff_iff]; simp; omega) | (rw [Bool.eq_iff_iff]; simp [*]; omega) | (simp [*]; omega))), rfl⟩

/-- y is a multiple of ten less than ten away from x -/
def isRnd (x y : Int) : Bool := inB x 0 100000 && (y.tmod 10 == 0) && decide (y < x + 10) && decide (x - 10 < y)
end Go.Proofs.YtaanppihgldeaaaGreatDoor
