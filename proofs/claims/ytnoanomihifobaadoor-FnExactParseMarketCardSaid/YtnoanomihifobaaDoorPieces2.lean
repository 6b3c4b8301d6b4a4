/- Pieces that grow by append, or are stored into: laws for the walk. -/
import Derived.Test.YtnoanomihifobaaDoorPieces
import Derived.Laws.OwnMore
namespace Go.Proofs.YtnoanomihifobaaDoor
set_option linter.unusedVariables false
open Go.RowKit

theorem grown_lt {w w' : World} {ps : List Pc} {p : Pc} {lo hi i : Nat} (h : OwnL w lo hi ps) (hi_ : ps[i]? = some p) (hg : w.grownBy w' p.v.ownBlock) (hlo : lo ≤ w.heap.size) : Below lo w w' :=
  (Below.refl lo w).grown hg hlo fun k hk => (h.inB hi_ k hk).1
theorem form_of {w : World} {lo E sz n : Nat} {v : Value} {xs : List Value} (h : w.ownsRow lo E sz v n xs) : ∃ A c, v = .slice A n c := by
  rcases h.2 with ⟨rfl, h0⟩ | ⟨g, cap, cur, rfl, _⟩
  · exact ⟨none, 0, by rw [h0]⟩
  · exact ⟨_, _, rfl⟩
theorem append_post {w w' : World} {ps : List Pc} {lo i E n m : Nat} {v v' : Value} {xs news : List Value} (h : OwnL w lo w.heap.size ps) (hi_ : ps[i]? = some ⟨E, 1, v, n, xs⟩) (hlo : lo ≤ w.heap.size)
    (hown : w'.ownsRow 0 E 1 v' (n + m) (xs ++ news)) (hg : w.grownBy w' v.ownBlock) (hat : v'.ownBlock = v.ownBlock ∨ v'.ownBlock = some w.heap.size) :
    OwnL w' lo w'.heap.size (ps.set i ⟨E, 1, v', n + m, xs ++ news⟩) ∧ Below lo w w' := by
  refine ⟨?_, grown_lt h hi_ hg hlo⟩
  refine (h.upd (p' := ⟨E, 1, v', n + m, xs ++ news⟩) (hi' := w'.heap.size + 1) hi_ (fun k hk hne => hg.block k hk (fun e => hne e.symm)) hown (by have := hg.size; omega) (Nat.le_refl _) ?_).tightH
  exact hat.imp id fun e k hk => by
    rw [show (Pc.v ⟨E, 1, v', n + m, xs ++ news⟩) = v' from rfl, e] at hk
    cases hk
    have := hg.size
    omega
/-- a piece is stored into -/
theorem OwnL.stored {w : World} {ps : List Pc} {lo hi i E sz g n c : Nat} {xs : List Value} (h : OwnL w lo hi ps) (hi_ : ps[i]? = some ⟨E, sz, .slice (some ⟨g, 0, none⟩) n c, n, xs⟩) (hs : hi ≤ w.heap.size) (j : Nat) (u : Value) :
    OwnL (w.setCell ⟨g, j, none⟩ u) lo hi (ps.set i ⟨E, sz, .slice (some ⟨g, 0, none⟩) n c, n, xs.set j u⟩) ∧ Only g (g + 1) w (w.setCell ⟨g, j, none⟩ u) ∧ lo ≤ g := by
  have hst := World.ownsRow.stored (h.at_ hi_) j u
  refine ⟨h.upd hi_ (fun k hk hne => hst.2.block k hk fun e => hne (by cases e; rfl)) hst.1 (Nat.le_refl _) hs (.inl rfl), Only.of_grown hst.2 fun k e => by cases e; omega, (h.inB hi_ g rfl).1⟩
theorem OwnL.storedB {w : World} {ps : List Pc} {lo i E sz g n c : Nat} {xs : List Value} (h : OwnL w lo w.heap.size ps) (hi_ : ps[i]? = some ⟨E, sz, .slice (some ⟨g, 0, none⟩) n c, n, xs⟩) (hlo : lo ≤ w.heap.size) (j : Nat) (u : Value) :
    OwnL (w.setCell ⟨g, j, none⟩ u) lo (w.setCell ⟨g, j, none⟩ u).heap.size (ps.set i ⟨E, sz, .slice (some ⟨g, 0, none⟩) n c, n, xs.set j u⟩) ∧ Below lo w (w.setCell ⟨g, j, none⟩ u) := by
  obtain ⟨a, b, e⟩ := h.stored hi_ (Nat.le_refl _) j u
  have hz : (w.setCell ⟨g, j, none⟩ u).heap.size = w.heap.size := Nat.le_antisymm (by simp) b.size
  rw [hz]
  exact ⟨a, b.toBelow e hlo⟩
theorem OwnL.cellAt {w : World} {ps : List Pc} {lo hi i E sz g n c : Nat} {xs : List Value} (h : OwnL w lo hi ps) (hi_ : ps[i]? = some ⟨E, sz, .slice (some ⟨g, 0, none⟩) n c, n, xs⟩) (j : Nat) (hj : j < n * sz) : w.cell? ⟨g, j, none⟩ = xs[j]? :=
  World.ownsRow.cellAt (h.at_ hi_) j hj
theorem OwnL.frozenAt {w : World} {ps : List Pc} {lo hi i E sz g n c : Nat} {xs : List Value} (h : OwnL w lo hi ps) (hi_ : ps[i]? = some ⟨E, sz, .slice (some ⟨g, 0, none⟩) n c, n, xs⟩) (j : Nat) : w.frozen? ⟨g, j, none⟩ = false :=
  World.ownsRow.frozenAt (h.at_ hi_) j
theorem OwnL.drop1 {w : World} {lo hi : Nat} {p : Pc} {ps : List Pc} (h : OwnL w lo hi (p :: ps)) : OwnL w lo hi ps := h.sub (List.sublist_cons_self _ _)
/-- a new block of one piece -/
theorem OwnL.addNew {w w' : World} {ps : List Pc} {lo : Nat} {p : Pc} (h : OwnL w lo w.heap.size ps) (hb : Below w.heap.size w w') (hp : p.ok w') (hlo : lo ≤ w.heap.size) (hk : ∀ k, p.v.ownBlock = some k → w.heap.size ≤ k) : OwnL w' lo w'.heap.size (p :: ps) :=
  (h.add (hi' := w'.heap.size) hb hp hb.size (fun k e => ⟨hk k e, by have := hk k e; omega, hp.lt k e⟩))
theorem pI_new {w w' : World} {v : Value} {xs : List Int} {l : Nat} (h : OwnI w' l w'.heap.size v xs) (hl : w.heap.size ≤ l) : (pI v xs).ok w' ∧ ∀ k, (pI v xs).v.ownBlock = some k → w.heap.size ≤ k :=
  ⟨(pI_of h).1, fun k e => Nat.le_trans hl ((pI_of h).2 k e).1⟩
theorem pI_empty (w : World) : (pI (.slice (some ⟨w.heap.size, 0, none⟩) 0 0) []).ok (w.alloc (.cells #[] 3)) ∧ ∀ k, (pI (.slice (some ⟨w.heap.size, 0, none⟩) 0 0) []).v.ownBlock = some k → w.heap.size ≤ k :=
  ⟨(pI_of (OwnI.empty w (lo := 0) (hi := w.heap.size + 1) (Nat.zero_le _) (by omega))).1, fun k e => by cases (show some w.heap.size = some k from e); exact Nat.le_refl _⟩
theorem OwnL.addEmpty {w : World} {ps : List Pc} {lo : Nat} (h : OwnL w lo w.heap.size ps) (hlo : lo ≤ w.heap.size) : OwnL (w.alloc (.cells #[] 3)) lo (w.alloc (.cells #[] 3)).heap.size (pI (.slice (some ⟨w.heap.size, 0, none⟩) 0 0) [] :: ps) :=
  h.addNew ((Below.refl _ _).alloc (Nat.le_refl _) _) (pI_empty w).1 hlo (pI_empty w).2
section
variable {ops : Array Oper} {rest : List Oper} {o : Oper} {a : Act} {Q : Exit → Act → World → Prop}
theorem wp_append_pI {K : Act → World → Prop} (w : World) (s x : Operand) (hop : o.op = Op.call { callee := Callee.builtin Builtin.append, args := #[s, x], argTypes := #[32, 32] })
    (lo i n c : Nat) (A : Option Addr) (xs : List Int) (ps : List Pc) (hs : a.eval s = .slice A n c) (hi : Nat) (hhi : hi ≤ w.heap.size) (hown : OwnL w lo hi ps) (hi_ : ps[i]? = some (pI (.slice A n c) xs))
    (y : Int) (b cc : Nat) (hx : a.eval x = .slice (some ⟨b, 0, none⟩) 1 cc) (hcell : w.cell? ⟨b, 0, none⟩ = some (.int .i64 y)) (hn : n ≤ 1099511627776) (hlo : lo ≤ w.heap.size)
    (hK : ∀ A' c' w', OwnL w' lo w'.heap.size (ps.set i (pI (.slice A' (n + 1) c') (xs ++ [y]))) → Below lo w w' → K (a.put o.dst (.slice A' (n + 1) c')) w') :
    Oper.wp Tryd.prog o a w K Q := by
  replace hown := hown.mono (Nat.le_refl lo) hhi
  obtain ⟨i0, hi0, hz0, hz1, hz2⟩ := info_parts infoI
  have hat := hown.at_ hi_
  obtain ⟨A1, c1, e⟩ := form_of hat
  change Value.slice A n c = .slice A1 xs.length c1 at e
  injection e with e1 e2 e3
  subst e1 e2 e3
  obtain ⟨v', w', hr, hown', hgrow, _, hat'⟩ := run_append_own_at (P := Tryd.prog) w 0 32 o.type 3 i0 (.int .i64 0) 1 8 Tryd.underlying32 hi0 hz0 hz1 hz2 rfl (by decide) _ xs.length _ hat ⟨b, 0, none⟩ 1 cc [.int .i64 y] rfl
    (fun j u hj => by
      match j, hj with
      | 0, hj => simp at hj; subst hj; simpa [Addr.add] using hcell) (fun u hu => by simp at hu; subst hu; rfl) (by unfold maxLen; omega) (by omega) (Nat.zero_le _)
  obtain ⟨A', c', rfl⟩ := form_of hown'
  obtain ⟨g1, g2⟩ := append_post (m := 1) hown hi_ hlo hown' hgrow hat'
  change Sem.run _ _ _ = _ at hr
  try simp only [pI, pR] at hr
  unfold Oper.wp execOp
  simp only [hop, resolve, invoke, builtin, Sem.run_bind, Sem.run_pure, Result.andThen_ok, List.map_toArray, List.map_cons, List.map_nil, hs, hx]
  rw [hr]
  refine hK A' c' w' ?_ g2
  rw [show (pI (.slice A' (xs.length + 1) c') (xs ++ [y])) = ⟨3, 1, .slice A' (xs.length + 1) c', xs.length + 1, xs.map (Value.int .i64) ++ [.int .i64 y]⟩ from by simp [pI]]
  exact g1
theorem wp_append_pR {K : Act → World → Prop} (w : World) (s x : Operand) (hop : o.op = Op.call { callee := Callee.builtin Builtin.append, args := #[s, x], argTypes := #[22, 22] })
    (lo i n c : Nat) (A : Option Addr) (us : List Value) (ps : List Pc) (hs : a.eval s = .slice A n c) (hi : Nat) (hhi : hi ≤ w.heap.size) (hown : OwnL w lo hi ps) (hi_ : ps[i]? = some (pR (.slice A n c) us))
    (u : Value) (b cc : Nat) (hx : a.eval x = .slice (some ⟨b, 0, none⟩) 1 cc) (hcell : w.cell? ⟨b, 0, none⟩ = some u) (hu : u.oneCell' = true) (hn : n ≤ 1000000000) (hlo : lo ≤ w.heap.size)
    (hK : ∀ A' c' w', OwnL w' lo w'.heap.size (ps.set i (pR (.slice A' (n + 1) c') (us ++ [u]))) → Below lo w w' → K (a.put o.dst (.slice A' (n + 1) c')) w') :
    Oper.wp Tryd.prog o a w K Q := by
  replace hown := hown.mono (Nat.le_refl lo) hhi
  obtain ⟨i0, hi0, hz0, hz1, hz2⟩ := info_parts infoR
  have hat := hown.at_ hi_
  obtain ⟨A1, c1, e⟩ := form_of hat
  change Value.slice A n c = .slice A1 us.length c1 at e
  injection e with e1 e2 e3
  subst e1 e2 e3
  obtain ⟨v', w', hr, hown', hgrow, _, hat'⟩ := run_append_own_at (P := Tryd.prog) w 0 22 o.type 32 i0 (.slice none 0 0) 1 24 Tryd.underlying22 hi0 hz0 hz1 hz2 rfl (by decide) _ us.length _ hat ⟨b, 0, none⟩ 1 cc [u] rfl
    (fun j u' hj => by
      match j, hj with
      | 0, hj => simp at hj; subst hj; simpa [Addr.add] using hcell) (fun u' hu' => by simp at hu'; subst hu'; exact hu) (by unfold maxLen; omega) (by omega) (Nat.zero_le _)
  obtain ⟨A', c', rfl⟩ := form_of hown'
  obtain ⟨g1, g2⟩ := append_post (m := 1) hown hi_ hlo hown' hgrow hat'
  change Sem.run _ _ _ = _ at hr
  try simp only [pI, pR] at hr
  unfold Oper.wp execOp
  simp only [hop, resolve, invoke, builtin, Sem.run_bind, Sem.run_pure, Result.andThen_ok, List.map_toArray, List.map_cons, List.map_nil, hs, hx]
  rw [hr]
  refine hK A' c' w' ?_ g2
  rw [show (pR (.slice A' (us.length + 1) c') (us ++ [u])) = ⟨32, 1, .slice A' (us.length + 1) c', us.length + 1, us ++ [u]⟩ from by simp [pR]]
  exact g1
theorem wpList_append_pI (w : World) (hg : o.guard = none) (s x : Operand) (hop : o.op = Op.call { callee := Callee.builtin Builtin.append, args := #[s, x], argTypes := #[32, 32] })
    (lo i n c : Nat) (A : Option Addr) (xs : List Int) (ps : List Pc) (hs : a.eval s = .slice A n c) (hi : Nat) (hhi : hi ≤ w.heap.size) (hown : OwnL w lo hi ps) (hi_ : ps[i]? = some (pI (.slice A n c) xs))
    (y : Int) (b cc : Nat) (hx : a.eval x = .slice (some ⟨b, 0, none⟩) 1 cc) (hcell : w.cell? ⟨b, 0, none⟩ = some (.int .i64 y)) (hn : n ≤ 1099511627776) (hlo : lo ≤ w.heap.size)
    (hK : ∀ A' c' w', OwnL w' lo w'.heap.size (ps.set i (pI (.slice A' (n + 1) c') (xs ++ [y]))) → Below lo w w' → wpList Tryd.prog ops Q rest (a.put o.dst (.slice A' (n + 1) c')) w') :
    wpList Tryd.prog ops Q (o :: rest) a w :=
  wpList_plain hg fun K hK' => wp_append_pI w s x hop lo i n c A xs ps hs hi hhi hown hi_ y b cc hx hcell hn hlo fun A' c' w' h1 h2 => hK' _ _ (hK A' c' w' h1 h2)
theorem wpList_append_pR (w : World) (hg : o.guard = none) (s x : Operand) (hop : o.op = Op.call { callee := Callee.builtin Builtin.append, args := #[s, x], argTypes := #[22, 22] })
    (lo i n c : Nat) (A : Option Addr) (us : List Value) (ps : List Pc) (hs : a.eval s = .slice A n c) (hi : Nat) (hhi : hi ≤ w.heap.size) (hown : OwnL w lo hi ps) (hi_ : ps[i]? = some (pR (.slice A n c) us))
    (u : Value) (b cc : Nat) (hx : a.eval x = .slice (some ⟨b, 0, none⟩) 1 cc) (hcell : w.cell? ⟨b, 0, none⟩ = some u) (hu : u.oneCell' = true) (hn : n ≤ 1000000000) (hlo : lo ≤ w.heap.size)
    (hK : ∀ A' c' w', OwnL w' lo w'.heap.size (ps.set i (pR (.slice A' (n + 1) c') (us ++ [u]))) → Below lo w w' → wpList Tryd.prog ops Q rest (a.put o.dst (.slice A' (n + 1) c')) w') :
    wpList Tryd.prog ops Q (o :: rest) a w :=
  wpList_plain hg fun K hK' => wp_append_pR w s x hop lo i n c A us ps hs hi hhi hown hi_ u b cc hx hcell hu hn hlo fun A' c' w' h1 h2 => hK' _ _ (hK A' c' w' h1 h2)
theorem wp_append_pIs {K : Act → World → Prop} (w : World) (s x : Operand) (hop : o.op = Op.call { callee := Callee.builtin Builtin.append, args := #[s, x], argTypes := #[32, 32] })
    (lo i n c : Nat) (A : Option Addr) (xs : List Int) (ps : List Pc) (hs : a.eval s = .slice A n c) (hi : Nat) (hhi : hi ≤ w.heap.size) (hown : OwnL w lo hi ps) (hi_ : ps[i]? = some (pI (.slice A n c) xs))
    (B : Option Addr) (m cc : Nat) (ys : List Int) (hx : a.eval x = .slice B m cc) (hy : IntsAt w B m ys) (hn : n + m ≤ 1099511627776) (hlo : lo ≤ w.heap.size)
    (hK : ∀ A' c' w', OwnL w' lo w'.heap.size (ps.set i (pI (.slice A' (n + m) c') (xs ++ ys))) → Below lo w w' → K (a.put o.dst (.slice A' (n + m) c')) w') :
    Oper.wp Tryd.prog o a w K Q := by
  replace hown := hown.mono (Nat.le_refl lo) hhi
  obtain ⟨i0, hi0, hz0, hz1, hz2⟩ := info_parts infoI
  have hat := hown.at_ hi_
  obtain ⟨A1, c1, e⟩ := form_of hat
  change Value.slice A n c = .slice A1 xs.length c1 at e
  injection e with e1 e2 e3
  subst e1 e2 e3
  obtain rfl := hy.len
  cases B with
  | none =>
    have hy0 : ys = [] := by
      rcases Nat.eq_zero_or_pos ys.length with h0 | h0
      · exact List.eq_nil_of_length_eq_zero h0
      · obtain ⟨b, o', e, _⟩ := hy.2 h0
        cases e
    subst hy0
    have hrun := run_append_of_nil (P := Tryd.prog) w 0 32 o.type 3 i0 1 Tryd.underlying32 hi0 (.slice A xs.length c) xs.length _ hat cc
    have hse : ps.set i (pI (.slice A xs.length c) xs) = ps := by
      obtain ⟨hl, e⟩ := List.getElem?_eq_some_iff.1 hi_
      rw [← e, List.set_getElem_self]
    have h2 := hK A c w (by rw [List.append_nil]; show OwnL w lo w.heap.size (ps.set i (pI (.slice A xs.length c) xs)); rw [hse]; exact hown) (Below.refl _ _)
    have h3 : K (a.put o.dst (.slice A xs.length c)) w := by simpa using h2
    unfold Oper.wp
    simp [execOp, hop, resolve, invoke, builtin, hs, hx, hrun, Result.andThen]
    exact h3
  | some ad =>
    obtain ⟨v', w', hr, hown', hgrow, _, hat'⟩ := run_append_own_at (P := Tryd.prog) w 0 32 o.type 3 i0 (.int .i64 0) 1 8 Tryd.underlying32 hi0 hz0 hz1 hz2 rfl (by decide) _ xs.length _ hat ad ys.length cc (ys.map (Value.int .i64)) (by simp)
      (fun j u hj => by
        have hjl : j < ys.length := by
          have := (List.getElem?_eq_some_iff.1 hj).1
          simpa using this
        obtain ⟨b, o', e, hc⟩ := hy.2 (by omega)
        cases e
        rw [Addr.add_lit, hc j hjl, ix_lt hjl]
        simp [hjl] at hj
        rw [hj]) (ints_oneCell _ _) (by unfold maxLen; omega) (by omega) (Nat.zero_le _)
    obtain ⟨A', c', rfl⟩ := form_of hown'
    obtain ⟨g1, g2⟩ := append_post (m := ys.length) hown hi_ hlo hown' hgrow hat'
    change Sem.run _ _ _ = _ at hr
    try simp only [pI, pR] at hr
    unfold Oper.wp execOp
    simp only [hop, resolve, invoke, builtin, Sem.run_bind, Sem.run_pure, Result.andThen_ok, List.map_toArray, List.map_cons, List.map_nil, hs, hx]
    rw [hr]
    refine hK A' c' w' ?_ g2
    rw [show (pI (.slice A' (xs.length + ys.length) c') (xs ++ ys)) = ⟨3, 1, .slice A' (xs.length + ys.length) c', xs.length + ys.length, xs.map (Value.int .i64) ++ ys.map (Value.int .i64)⟩ from by simp [pI]]
    exact g1
theorem wpList_append_pIs (w : World) (hg : o.guard = none) (s x : Operand) (hop : o.op = Op.call { callee := Callee.builtin Builtin.append, args := #[s, x], argTypes := #[32, 32] })
    (lo i n c : Nat) (A : Option Addr) (xs : List Int) (ps : List Pc) (hs : a.eval s = .slice A n c) (hi : Nat) (hhi : hi ≤ w.heap.size) (hown : OwnL w lo hi ps) (hi_ : ps[i]? = some (pI (.slice A n c) xs))
    (B : Option Addr) (m cc : Nat) (ys : List Int) (hx : a.eval x = .slice B m cc) (hy : IntsAt w B m ys) (hn : n + m ≤ 1099511627776) (hlo : lo ≤ w.heap.size)
    (hK : ∀ A' c' w', OwnL w' lo w'.heap.size (ps.set i (pI (.slice A' (n + m) c') (xs ++ ys))) → Below lo w w' → wpList Tryd.prog ops Q rest (a.put o.dst (.slice A' (n + m) c')) w') :
    wpList Tryd.prog ops Q (o :: rest) a w :=
  wpList_plain hg fun K hK' => wp_append_pIs w s x hop lo i n c A xs ps hs hi hhi hown hi_ B m cc ys hx hy hn hlo fun A' c' w' h1 h2 => hK' _ _ (hK A' c' w' h1 h2)
theorem step_append_pIs {K : Act → World → Prop} {E : Prop} (w : World) (hgd : o.guard = none) (s x : Operand) (hop : o.op = Op.call { callee := Callee.builtin Builtin.append, args := #[s, x], argTypes := #[32, 32] })
    (lo i n c : Nat) (A : Option Addr) (xs : List Int) (ps : List Pc) (hs : a.eval s = .slice A n c) (hi : Nat) (hhi : hi ≤ w.heap.size) (hown : OwnL w lo hi ps) (hi_ : ps[i]? = some (pI (.slice A n c) xs))
    (B : Option Addr) (m cc : Nat) (ys : List Int) (hx : a.eval x = .slice B m cc) (hy : IntsAt w B m ys) (hn : n + m ≤ 1099511627776) (hlo : lo ≤ w.heap.size)
    (hK : ∀ A' c' w', OwnL w' lo w'.heap.size (ps.set i (pI (.slice A' (n + m) c') (xs ++ ys))) → Below lo w w' → K (a.put o.dst (.slice A' (n + m) c')) w') :
    if Region.wanted o (yielded ops a.tmps) = true then Oper.wp Tryd.prog o a w K Q else E := by
  have hw : Region.wanted o (yielded ops a.tmps) = true := by simp [Region.wanted, hgd]
  rw [if_pos hw]
  exact wp_append_pIs w s x hop lo i n c A xs ps hs hi hhi hown hi_ B m cc ys hx hy hn hlo hK
theorem step_append_pI {K : Act → World → Prop} {E : Prop} (w : World) (hgd : o.guard = none) (s x : Operand) (hop : o.op = Op.call { callee := Callee.builtin Builtin.append, args := #[s, x], argTypes := #[32, 32] })
    (lo i n c : Nat) (A : Option Addr) (xs : List Int) (ps : List Pc) (hs : a.eval s = .slice A n c) (hi : Nat) (hhi : hi ≤ w.heap.size) (hown : OwnL w lo hi ps) (hi_ : ps[i]? = some (pI (.slice A n c) xs))
    (y : Int) (b cc : Nat) (hx : a.eval x = .slice (some ⟨b, 0, none⟩) 1 cc) (hcell : w.cell? ⟨b, 0, none⟩ = some (.int .i64 y)) (hn : n ≤ 1099511627776) (hlo : lo ≤ w.heap.size)
    (hK : ∀ A' c' w', OwnL w' lo w'.heap.size (ps.set i (pI (.slice A' (n + 1) c') (xs ++ [y]))) → Below lo w w' → K (a.put o.dst (.slice A' (n + 1) c')) w') :
    if Region.wanted o (yielded ops a.tmps) = true then Oper.wp Tryd.prog o a w K Q else E := by
  have hw : Region.wanted o (yielded ops a.tmps) = true := by simp [Region.wanted, hgd]
  rw [if_pos hw]
  exact wp_append_pI w s x hop lo i n c A xs ps hs hi hhi hown hi_ y b cc hx hcell hn hlo hK
theorem step_append_pR {K : Act → World → Prop} {E : Prop} (w : World) (hgd : o.guard = none) (s x : Operand) (hop : o.op = Op.call { callee := Callee.builtin Builtin.append, args := #[s, x], argTypes := #[22, 22] })
    (lo i n c : Nat) (A : Option Addr) (us : List Value) (ps : List Pc) (hs : a.eval s = .slice A n c) (hi : Nat) (hhi : hi ≤ w.heap.size) (hown : OwnL w lo hi ps) (hi_ : ps[i]? = some (pR (.slice A n c) us))
    (u : Value) (b cc : Nat) (hx : a.eval x = .slice (some ⟨b, 0, none⟩) 1 cc) (hcell : w.cell? ⟨b, 0, none⟩ = some u) (hu : u.oneCell' = true) (hn : n ≤ 1000000000) (hlo : lo ≤ w.heap.size)
    (hK : ∀ A' c' w', OwnL w' lo w'.heap.size (ps.set i (pR (.slice A' (n + 1) c') (us ++ [u]))) → Below lo w w' → K (a.put o.dst (.slice A' (n + 1) c')) w') :
    if Region.wanted o (yielded ops a.tmps) = true then Oper.wp Tryd.prog o a w K Q else E := by
  have hw : Region.wanted o (yielded ops a.tmps) = true := by simp [Region.wanted, hgd]
  rw [if_pos hw]
  exact wp_append_pR w s x hop lo i n c A us ps hs hi hhi hown hi_ u b cc hx hcell hu hn hlo hK
end
end Go.Proofs.YtnoanomihifobaaDoor
