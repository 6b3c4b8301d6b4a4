/- Pieces of memory of the call's own, no two in one block: plain lemmas on worlds. No program is walked here. -/
import Derived.Test.YtnoanomihifobaaDoorRows2
import Derived.Test.YtnoanomihifobaaDoorHdrAp
namespace Go.Proofs.YtnoanomihifobaaDoor
set_option linter.unusedVariables false
open Go.RowKit

/-- a piece: a slice value in a block of its own, and what its cells hold -/
structure Pc where
  E : Nat
  sz : Nat
  v : Value
  n : Nat
  xs : List Value
def Pc.ok (w : World) (p : Pc) : Prop := w.ownsRow 0 p.E p.sz p.v p.n p.xs
def pI (v : Value) (xs : List Int) : Pc := ⟨3, 1, v, xs.length, xs.map (Value.int .i64)⟩
def pR (v : Value) (us : List Value) : Pc := ⟨32, 1, v, us.length, us⟩
def pS (T g : Nat) (vals : List Value) : Pc := ⟨T, vals.length, .slice (some ⟨g, 0, none⟩) 1 1, 1, vals⟩
/-- the pieces of rows -/
def rowsL : List Value → List (List Int) → List Pc
  | u :: us, xs :: xss => pI u xs :: rowsL us xss
  | _, _ => []
/-- the pieces ps are the call's own: from block lo on, below hi, no two in one block -/
def OwnL (w : World) (lo hi : Nat) (ps : List Pc) : Prop := (∀ p ∈ ps, p.ok w ∧ ∀ k, p.v.ownBlock = some k → lo ≤ k ∧ k < hi) ∧ ps.Pairwise (fun p q => Apart p.v q.v)
def InB (lo hi : Nat) (v : Value) : Prop := ∀ k, v.ownBlock = some k → lo ≤ k ∧ k < hi

section
variable {w w' : World} {lo hi B : Nat} {ps qs : List Pc} {p p' : Pc}

theorem Pc.ok.keep (h : p.ok w) (hf : ∀ k, p.v.ownBlock = some k → k < w.heap.size → w'.heap[k]? = w.heap[k]?) : p.ok w' := by
  refine ⟨h.1, ?_⟩
  rcases h.2 with h0 | ⟨g, cap, cur, hv, hgb, hg, r⟩
  · exact .inl h0
  · exact .inr ⟨g, cap, cur, hv, hgb, by rw [hf g (by rw [hv]; rfl) (Array.getElem?_eq_some_iff.1 hg).1]; exact hg, r⟩
theorem Pc.ok.lt (h : p.ok w) : ∀ k, p.v.ownBlock = some k → k < w.heap.size := fun k hk => (World.ownsRow.lt h k hk).2
theorem OwnL.nil (w : World) (lo hi : Nat) : OwnL w lo hi [] := ⟨fun p h => absurd h (by simp), List.Pairwise.nil⟩
theorem OwnL.keep (h : OwnL w lo hi ps) (hf : ∀ k, lo ≤ k → k < hi → k < w.heap.size → w'.heap[k]? = w.heap[k]?) : OwnL w' lo hi ps :=
  ⟨fun p hp => ⟨(h.1 p hp).1.keep fun k hk hs => hf k ((h.1 p hp).2 k hk).1 ((h.1 p hp).2 k hk).2 hs, (h.1 p hp).2⟩, h.2⟩
theorem OwnL.belowW (h : OwnL w lo hi ps) (hb : Below w.heap.size w w') : OwnL w' lo hi ps := h.keep fun k _ _ hs => hb.block k hs
theorem OwnL.below (h : OwnL w lo hi ps) (hb : Below B w w') (hB : hi ≤ B) : OwnL w' lo hi ps := h.keep fun k _ hk _ => hb.block k (by omega)
theorem OwnL.only {l2 h2 : Nat} (h : OwnL w lo hi ps) (ho : Only l2 h2 w w') (hd : hi ≤ l2 ∨ h2 ≤ lo) : OwnL w' lo hi ps := h.keep fun k h1 h2 hs => ho.block k hs (by omega)
theorem OwnL.drewN (h : OwnL w lo hi ps) (m : Nat) : OwnL (w.drewN m) lo hi ps := h
theorem OwnL.alloc (h : OwnL w lo hi ps) (o : Obj) : OwnL (w.alloc o) lo hi ps := h.belowW ((Below.refl _ _).alloc (Nat.le_refl _) o)
theorem OwnL.mono {lo' hi' : Nat} (h : OwnL w lo hi ps) (hl : lo' ≤ lo) (hh : hi ≤ hi') : OwnL w lo' hi' ps :=
  ⟨fun p hp => ⟨(h.1 p hp).1, fun k hk => by have := (h.1 p hp).2 k hk; omega⟩, h.2⟩
theorem OwnL.tightH (h : OwnL w lo hi ps) : OwnL w lo w.heap.size ps := ⟨fun p hp => ⟨(h.1 p hp).1, fun k hk => ⟨((h.1 p hp).2 k hk).1, (h.1 p hp).1.lt k hk⟩⟩, h.2⟩
theorem OwnL.sub (h : OwnL w lo hi ps) (hs : qs.Sublist ps) : OwnL w lo hi qs := ⟨fun p hp => h.1 p (hs.mem hp), h.2.sublist hs⟩
theorem OwnL.perm (h : OwnL w lo hi ps) (hs : qs.Perm ps) : OwnL w lo hi qs :=
  ⟨fun p hp => h.1 p (hs.mem_iff.1 hp), (hs.pairwise_iff (fun {a b} (h : Apart a.v b.v) => h.symm)).2 h.2⟩
theorem OwnL.at_ {i : Nat} (h : OwnL w lo hi ps) (hi : ps[i]? = some p) : p.ok w := (h.1 p (List.mem_of_getElem? hi)).1
theorem OwnL.inB {i : Nat} (h : OwnL w lo hi ps) (hi' : ps[i]? = some p) : InB lo hi p.v := (h.1 p (List.mem_of_getElem? hi')).2
theorem OwnL.apart {i j : Nat} {q : Pc} (h : OwnL w lo hi ps) (hi : ps[i]? = some p) (hj : ps[j]? = some q) (hne : i ≠ j) : Apart p.v q.v := by
  have h2 := h.2
  rw [List.pairwise_iff_getElem] at h2
  obtain ⟨a, ea⟩ := List.getElem?_eq_some_iff.1 hi
  obtain ⟨b, eb⟩ := List.getElem?_eq_some_iff.1 hj
  rcases Nat.lt_or_gt_of_ne hne with hl | hl
  · have := h2 i j a b hl; rw [ea, eb] at this; exact this
  · have := h2 j i b a hl; rw [ea, eb] at this; exact this.symm
/-- piece i is changed, in its block or in a new one -/
theorem OwnL.upd {i hi' : Nat} (h : OwnL w lo hi ps) (hi_ : ps[i]? = some p) (hg : ∀ k, k < w.heap.size → p.v.ownBlock ≠ some k → w'.heap[k]? = w.heap[k]?) (hp : p'.ok w') (hhi : hi ≤ hi') (hs : hi ≤ w.heap.size)
    (hb : p'.v.ownBlock = p.v.ownBlock ∨ ∀ k, p'.v.ownBlock = some k → w.heap.size ≤ k ∧ lo ≤ k ∧ k < hi') : OwnL w' lo hi' (ps.set i p') := by
  have hil := (List.getElem?_eq_some_iff.1 hi_).1
  have hbp := h.inB hi_
  constructor
  · intro q hq
    obtain ⟨j, hj, e⟩ := List.getElem_of_mem hq
    rw [List.length_set] at hj
    rw [List.getElem_set] at e
    by_cases hij : i = j
    · rw [if_pos hij] at e
      subst e
      refine ⟨hp, fun k hk => ?_⟩
      rcases hb with e | e
      · rw [e] at hk
        have := hbp k hk
        omega
      · exact (e k hk).2
    · rw [if_neg hij] at e
      have hjq : ps[j]? = some q := by rw [List.getElem?_eq_getElem hj, e]
      have hap := h.apart hi_ hjq hij
      have hqb := h.inB hjq
      refine ⟨(h.at_ hjq).keep fun k hk hs => hg k hs fun e2 => ?_, fun k hk => by have := hqb k hk; omega⟩
      rcases hap with e3 | e3
      · rw [e3] at e2; cases e2
      · exact e3 (e2.trans hk.symm)
  · have hnew : ∀ j q, j ≠ i → ps[j]? = some q → Apart p'.v q.v := fun j q hji hjq => by
      have hap := h.apart hi_ hjq (fun e => hji e.symm)
      rcases hb with e | e
      · unfold Apart at *; rw [e]; exact hap
      · cases hk : p'.v.ownBlock with
        | none => exact .inl hk
        | some k =>
          right
          rw [hk]
          intro e2
          have h1 := e k hk
          have h2 := (h.at_ hjq).lt k e2.symm
          omega
    rw [List.pairwise_iff_getElem]
    intro a b ha hb' hab
    rw [List.length_set] at ha hb'
    rw [List.getElem_set, List.getElem_set]
    by_cases e1 : i = a
    · rw [if_pos e1, if_neg (by omega)]
      exact hnew b _ (by omega) (List.getElem?_eq_getElem hb')
    · rw [if_neg e1]
      by_cases e2 : i = b
      · rw [if_pos e2]
        exact (hnew a _ (by omega) (List.getElem?_eq_getElem ha)).symm
      · rw [if_neg e2]
        exact h.apart (List.getElem?_eq_getElem ha) (List.getElem?_eq_getElem hb') (by omega)
/-- a new piece, behind all that is there -/
theorem OwnL.add {hi' : Nat} (h : OwnL w lo hi ps) (hb : Below w.heap.size w w') (hp : p.ok w') (hhi : hi ≤ hi') (hk : ∀ k, p.v.ownBlock = some k → w.heap.size ≤ k ∧ lo ≤ k ∧ k < hi') : OwnL w' lo hi' (p :: ps) := by
  have h1 := (h.belowW hb).mono (Nat.le_refl lo) hhi
  refine ⟨fun q hq => ?_, ?_⟩
  · rcases List.mem_cons.1 hq with rfl | hq
    · exact ⟨hp, fun k e => (hk k e).2⟩
    · exact h1.1 q hq
  · rw [List.pairwise_cons]
    refine ⟨fun q hq => ?_, h1.2⟩
    cases e : p.v.ownBlock with
    | none => exact .inl e
    | some k =>
      right
      rw [e]
      intro e2
      have a := hk k e
      have b := (h.1 q hq).1.lt k e2.symm
      omega
/-- two lists of pieces in two ranges -/
theorem OwnL.append {l2 h2 : Nat} (h : OwnL w lo hi ps) (g : OwnL w l2 h2 qs) (hd : hi ≤ l2 ∨ h2 ≤ lo) : OwnL w (min lo l2) (max hi h2) (ps ++ qs) := by
  refine ⟨fun p hp => ?_, ?_⟩
  · rcases List.mem_append.1 hp with hp | hp
    · exact ((h.mono (Nat.min_le_left lo l2) (Nat.le_max_left hi h2)).1 p hp)
    · exact ((g.mono (Nat.min_le_right lo l2) (Nat.le_max_right hi h2)).1 p hp)
  · rw [List.pairwise_append]
    refine ⟨h.2, g.2, fun a ha b hb => ?_⟩
    cases e : a.v.ownBlock with
    | none => exact .inl e
    | some k =>
      right
      rw [e]
      intro e2
      have h1 := (h.1 a ha).2 k e
      have h2 := (g.1 b hb).2 k e2.symm
      omega
end
section
variable {w w' : World} {lo hi : Nat} {v : Value} {xs : List Int} {us : List Value} {xss : List (List Int)}
theorem pI_own (h : (pI v xs).ok w) (hb : InB lo hi v) : OwnI w lo hi v xs := by
  refine ⟨⟨h.1, ?_⟩, fun k hk => (hb k hk).2⟩
  rcases h.2 with h0 | ⟨g, cap, cur, hv, hgb, r⟩
  · exact .inl h0
  · change v = _ at hv
    exact .inr ⟨g, cap, cur, hv, (hb g (by rw [hv]; rfl)).1, r⟩
theorem pI_of (h : OwnI w lo hi v xs) : (pI v xs).ok w ∧ InB lo hi v := by
  refine ⟨⟨h.1.1, ?_⟩, h.block_ge⟩
  rcases h.1.2 with h0 | ⟨g, cap, cur, hv, hgb, r⟩
  · exact .inl h0
  · exact .inr ⟨g, cap, cur, hv, Nat.zero_le _, r⟩
theorem rowsL_len : ∀ {us : List Value} {xss : List (List Int)}, us.length = xss.length → (rowsL us xss).length = xss.length
  | [], [], _ => rfl
  | _ :: us, _ :: xss, h => by simp [rowsL, rowsL_len (us := us) (xss := xss) (by simpa using h)]
theorem rowsL_at : ∀ {us : List Value} {xss : List (List Int)} {i : Nat} {u : Value}, us.length = xss.length → us[i]? = some u → (rowsL us xss)[i]? = some (pI u (rx xss i))
  | _ :: us, xs :: xss, 0, u, _, hu => by simp at hu; subst hu; rfl
  | _ :: us, xs :: xss, i + 1, u, h, hu => by
    have := rowsL_at (us := us) (xss := xss) (i := i) (u := u) (by simpa using h) (by simpa using hu)
    simpa [rowsL, rx] using this
theorem rowsL_set : ∀ {us : List Value} {xss : List (List Int)} {i : Nat} (u : Value) (ys : List Int), us.length = xss.length → (rowsL us xss).set i (pI u ys) = rowsL (us.set i u) (xss.set i ys)
  | [], [], _, _, _, _ => rfl
  | _ :: us, xs :: xss, 0, u, ys, _ => rfl
  | _ :: us, xs :: xss, i + 1, u, ys, h => by
    have := rowsL_set (us := us) (xss := xss) (i := i) u ys (by simpa using h)
    simp [rowsL, this]
theorem rowsL_append : ∀ {us vs : List Value} {xss yss : List (List Int)}, us.length = xss.length → rowsL (us ++ vs) (xss ++ yss) = rowsL us xss ++ rowsL vs yss
  | [], _, [], _, _ => rfl
  | _ :: us, vs, _ :: xss, yss, h => by
    have := rowsL_append (us := us) (vs := vs) (xss := xss) (yss := yss) (by simpa using h)
    simp [rowsL, this]
/-- rows, by header and pieces -/
theorem ownR_of_pieces {A : Option Addr} {n c : Nat} (hl : us.length = xss.length) (h : OwnL w lo hi (pR v us :: rowsL us xss)) : OwnR w lo hi v xss := by
  rw [ownR_iff]
  have h0 := h.at_ (i := 0) rfl
  have hb := h.inB (i := 0) rfl
  refine ⟨us, ⟨by have := h0.1; rw [← hl]; exact this, ?_⟩, fun k hk => (hb k hk).2, hl, fun i hi' => ?_, ?_⟩
  · rcases h0.2 with e | ⟨g, cap, cur, hv, hgb, r⟩
    · exact .inl ⟨e.1, by rw [← hl]; exact e.2⟩
    · change v = .slice (some ⟨g, 0, none⟩) us.length cap at hv
      exact .inr ⟨g, cap, cur, by rw [← hl]; exact hv, (hb g (by show v.ownBlock = _; rw [hv]; rfl)).1, by rw [← hl]; exact r⟩
  · have hu : us[i]? = some us[i] := List.getElem?_eq_getElem (by omega)
    have hp := rowsL_at hl hu
    have e1 : (pR v us :: rowsL us xss)[i + 1]? = some (pI us[i] (rx xss i)) := by simpa using hp
    exact ⟨_, hu, pI_own (h.at_ e1) (h.inB e1)⟩
  · rw [List.pairwise_iff_getElem]
    intro i j hi' hj hij
    have e1 : (pR v us :: rowsL us xss)[i + 1]? = some (pI us[i] (rx xss i)) := by simpa using rowsL_at hl (List.getElem?_eq_getElem hi')
    have e2 : (pR v us :: rowsL us xss)[j + 1]? = some (pI us[j] (rx xss j)) := by simpa using rowsL_at hl (List.getElem?_eq_getElem hj)
    exact h.apart e1 e2 (by omega)
theorem rowsL_mem : ∀ {us : List Value} {xss : List (List Int)} {p : Pc}, us.length = xss.length → p ∈ rowsL us xss → ∃ i u, us[i]? = some u ∧ i < xss.length ∧ p = pI u (rx xss i)
  | u :: us, xs :: xss, p, h, hp => by
    rcases List.mem_cons.1 hp with rfl | hp
    · exact ⟨0, u, rfl, by simp, rfl⟩
    · obtain ⟨i, v, h1, h2, h3⟩ := rowsL_mem (by simpa using h) hp
      exact ⟨i + 1, v, by simpa using h1, by simp; omega, by rw [h3]; rfl⟩
theorem rowsL_pair : ∀ {us : List Value} {xss : List (List Int)}, us.length = xss.length → us.Pairwise Apart → (rowsL us xss).Pairwise (fun p q => Apart p.v q.v)
  | [], [], _, _ => List.Pairwise.nil
  | u :: us, xs :: xss, h, hp => by
    rw [List.pairwise_cons] at hp
    show (pI u xs :: rowsL us xss).Pairwise _
    rw [List.pairwise_cons]
    refine ⟨fun q hq => ?_, rowsL_pair (by simpa using h) hp.2⟩
    obtain ⟨i, v, h1, h2, rfl⟩ := rowsL_mem (by simpa using h) hq
    exact hp.1 v (List.mem_of_getElem? h1)
theorem pieces_of_ownR (h : OwnR w lo hi v xss) : ∃ us, us.length = xss.length ∧ OwnL w lo hi (pR v us :: rowsL us xss) := by
  obtain ⟨us, h1, h2, h3, h4, h5⟩ := ownR_iff.1 h
  have hv : ∀ i u, us[i]? = some u → OwnI w lo hi u (rx xss i) := fun i u e => by
    obtain ⟨u', e', ho⟩ := h4 i (by rw [← h3]; exact (List.getElem?_eq_some_iff.1 e).1)
    rw [e] at e'
    cases e'
    exact ho
  have h1' : w.ownsRow lo 32 1 v us.length us := by rw [h3]; exact h1
  refine ⟨us, h3, fun p hp => ?_, ?_⟩
  · rcases List.mem_cons.1 hp with rfl | hp
    · refine ⟨⟨h1'.1, ?_⟩, fun k e => ⟨(World.ownsRow.lt h1' k e).1, h2 k e⟩⟩
      rcases h1'.2 with e | ⟨g, cap, cur, hv, hgb, r⟩
      · exact .inl e
      · exact .inr ⟨g, cap, cur, hv, Nat.zero_le _, r⟩
    · obtain ⟨i, u, e, hi', rfl⟩ := rowsL_mem h3 hp
      exact pI_of (hv i u e)
  · rw [List.pairwise_cons]
    refine ⟨fun q hq => ?_, rowsL_pair h3 h5⟩
    obtain ⟨i, u, e, hi', rfl⟩ := rowsL_mem h3 hq
    show Apart v u
    cases hb : v.ownBlock with
    | none => exact .inl hb
    | some k =>
      right
      rcases h1'.2 with e2 | ⟨g, cap, cur, hv', hgb, r⟩
      · rw [e2.1] at hb; cases hb
      · subst hv'
        rw [hb]
        cases hb
        exact Ne.symm (ne_block h1' (hv i u e))
/-- a list of numbers grows -/
theorem OwnL.only_upd {w w' : World} {ps : List Pc} {p p' : Pc} {lo hi i g : Nat} (h : OwnL w lo hi ps) (hi_ : ps[i]? = some p) (hv : p.v.ownBlock = some g) (ho : Only g (g + 1) w w') (hp : p'.ok w') (hs : hi ≤ w.heap.size) (hb : p'.v.ownBlock = p.v.ownBlock) : OwnL w' lo hi (ps.set i p') :=
  h.upd hi_ (fun k hk hne => ho.block k hk (by rw [hv] at hne; intro e; exact hne (by congr 1; omega))) hp (Nat.le_refl _) hs (.inl hb)
theorem OwnL.grown_upd {w w' : World} {ps : List Pc} {p p' : Pc} {lo hi hi' i : Nat} (h : OwnL w lo hi ps) (hi_ : ps[i]? = some p) (hg : w.grownBy w' p.v.ownBlock) (hp : p'.ok w') (hhi : hi ≤ hi') (hs : hi ≤ w.heap.size) (hlo : lo ≤ w.heap.size) (hnew : w.heap.size < hi')
    (hb : p'.v.ownBlock = p.v.ownBlock ∨ p'.v.ownBlock = some w.heap.size) : OwnL w' lo hi' (ps.set i p') :=
  h.upd hi_ (fun k hk hne => hg.block k hk (fun e => hne e.symm)) hp hhi hs (hb.imp id fun e k hk => by rw [e] at hk; cases hk; omega)
end
end Go.Proofs.YtnoanomihifobaaDoor
