/- The program's SplitSchool. -/
import Derived.Test.YtmakbndlobaaaaaSplitP
import Derived.Test.YtmakbndlobaaaaaPieces2
import Derived.Test.YtmakbndlobaaaaaCopy
import Derived.Test.YtmakbndlobaaaaaRegH
import Derived.Laws.CopyOwn
import Derived.Deep.RegionLaw
namespace Go.Proofs.Ytmakbndlobaaaaa
set_option linter.unusedVariables false
open Go.RowKit

theorem triple_put {w : World} {g : Nat} {x0 x1 x2 : Value} (h0 : w.cell? ⟨g, 0, none⟩ = some x0) (h1 : w.cell? ⟨g, 1, none⟩ = some x1) (h2 : w.cell? ⟨g, 2, none⟩ = some x2) (u v x : Value) :
    (((w.setCell ⟨g, 0, none⟩ u).setCell ⟨g, 1, none⟩ v).setCell ⟨g, 2, none⟩ x).cell? ⟨g, 0, none⟩ = some u ∧ (((w.setCell ⟨g, 0, none⟩ u).setCell ⟨g, 1, none⟩ v).setCell ⟨g, 2, none⟩ x).cell? ⟨g, 1, none⟩ = some v ∧
      (((w.setCell ⟨g, 0, none⟩ u).setCell ⟨g, 1, none⟩ v).setCell ⟨g, 2, none⟩ x).cell? ⟨g, 2, none⟩ = some x := by
  obtain ⟨e0, e1⟩ := pair_set h0 h1 u v
  refine ⟨?_, ?_, ?_⟩
  · rw [World.cell?_setCell_other _ _ _ _ (by simp)]; exact e0
  · rw [World.cell?_setCell_other _ _ _ _ (by simp)]; exact e1
  · exact World.cell?_setCell_same _ _ _ ((World.cell?_setCell_other _ _ _ _ (by simp)).trans ((World.cell?_setCell_other _ _ _ _ (by simp)).trans h2))
theorem only_setC (W : World) (g j : Nat) (u : Value) : Only g (g + 1) W (W.setCell ⟨g, j, none⟩ u) := ⟨rfl, rfl, rfl, by simp [World.setCell], fun k _ hk => Below.heap_setCell _ _ _ _ (by simp; omega)⟩
/-- the school's box and the result's cell -/
structure SplW (w0 : World) (A : Option Addr) (n c : Nat) (sss : List (List Int)) (B : Option Addr) (m d : Nat) (ccc : List (List Int)) (C : Option Addr) (l e : Nat) (ps : List Int) (W : World) : Prop where
  s : SchAt W w0.heap.size A n c sss B m d ccc C l e ps
  y0 : W.cell? ⟨w0.heap.size + 1, 0, none⟩ = some (.slice none 0 0)
  y1 : W.cell? ⟨w0.heap.size + 1, 1, none⟩ = some (.slice none 0 0)
  y2 : W.cell? ⟨w0.heap.size + 1, 2, none⟩ = some (.slice none 0 0)
  f : ∀ j, W.frozen? ⟨w0.heap.size + 1, j, none⟩ = false
  bel : Below w0.heap.size w0 W
  sz : w0.heap.size + 2 ≤ W.heap.size
section
variable {w0 W W' : World} {A : Option Addr} {n c : Nat} {sss : List (List Int)} {B : Option Addr} {m d : Nat} {ccc : List (List Int)} {C : Option Addr} {l e : Nat} {ps : List Int}
theorem SplW.later (h : SplW w0 A n c sss B m d ccc C l e ps W) (hb : Below W.heap.size W W') : SplW w0 A n c sss B m d ccc C l e ps W' :=
  ⟨h.s.below hb, cell_carry hb h.y0, cell_carry hb h.y1, cell_carry hb h.y2, fun j => (hb.frozen (p := ⟨w0.heap.size + 1, j, none⟩) (by have := h.sz; simp; omega)).trans (h.f j), h.bel.trans (hb.mono h.bel.size), Nat.le_trans h.sz hb.size⟩
/-- all below block b lies as it lay -/
theorem SplW.laterB {b : Nat} (h : SplW w0 A n c sss B m d ccc C l e ps W) (hb : Below b W W') (hs : w0.heap.size + 2 ≤ b) (h1 : RowsAt W' A n sss) (h2 : RowsAt W' B m ccc) (h3 : IntsAt W' C l ps) : SplW w0 A n c sss B m d ccc C l e ps W' :=
  ⟨⟨(hb.cell (p := ⟨w0.heap.size, 0, none⟩) (by simp; omega)).trans h.s.c0, (hb.cell (p := ⟨w0.heap.size, 1, none⟩) (by simp; omega)).trans h.s.c1, (hb.cell (p := ⟨w0.heap.size, 2, none⟩) (by simp; omega)).trans h.s.c2, h1, h2, h3⟩,
    (hb.cell (p := ⟨w0.heap.size + 1, 0, none⟩) (by simp; omega)).trans h.y0, (hb.cell (p := ⟨w0.heap.size + 1, 1, none⟩) (by simp; omega)).trans h.y1, (hb.cell (p := ⟨w0.heap.size + 1, 2, none⟩) (by simp; omega)).trans h.y2,
    fun j => (hb.frozen (p := ⟨w0.heap.size + 1, j, none⟩) (by simp; omega)).trans (h.f j), h.bel.trans (hb.mono (by omega)), Nat.le_trans h.sz hb.size⟩
theorem SplW.start {w : World} (h : RowsAt w A n sss) (g : RowsAt w B m ccc) (q : IntsAt w C l ps) (T : TypeId) :
    SplW w A n c sss B m d ccc C l e ps ((w.alloc (.cells #[.slice A n c, .slice B m d, .slice C l e] T)).alloc (.cells #[.slice none 0 0, .slice none 0 0, .slice none 0 0] T)) := by
  have a1 := triple_below w (.slice A n c) (.slice B m d) (.slice C l e) T
  have b2 := triple_below (w.alloc (.cells #[.slice A n c, .slice B m d, .slice C l e] T)) (.slice none 0 0) (.slice none 0 0) (.slice none 0 0) T
  have p2 := new_triple (w.alloc (.cells #[.slice A n c, .slice B m d, .slice C l e] T)) (.slice none 0 0) (.slice none 0 0) (.slice none 0 0) T (g := w.heap.size + 1) (by simp)
  exact ⟨(SchAt.new h g q T).below b2, p2.1, p2.2.1, p2.2.2, fun j => new_free _ _ _ (by simp) j, a1.trans (b2.mono (by simp)), by simp⟩
/-- the result's cell is stored -/
theorem SplW.fin (h : SplW w0 A n c sss B m d ccc C l e ps W) {u v x : Value} (e : ((W.setCell ⟨w0.heap.size + 1, 0, none⟩ u).setCell ⟨w0.heap.size + 1, 1, none⟩ v).setCell ⟨w0.heap.size + 1, 2, none⟩ x = W') :
    W'.cell? ⟨w0.heap.size + 1, 0, none⟩ = some u ∧ W'.cell? ⟨w0.heap.size + 1, 1, none⟩ = some v ∧ W'.cell? ⟨w0.heap.size + 1, 2, none⟩ = some x ∧ Below w0.heap.size w0 W' ∧ Only (w0.heap.size + 1) (w0.heap.size + 2) W W' := by
  subst e
  have p := triple_put h.y0 h.y1 h.y2 u v x
  exact ⟨p.1, p.2.1, p.2.2, ((h.bel.setCell (p := ⟨w0.heap.size + 1, 0, none⟩) (by simp) u).setCell (p := ⟨w0.heap.size + 1, 1, none⟩) (by simp) v).setCell (p := ⟨w0.heap.size + 1, 2, none⟩) (by simp) x,
    ((only_setC W (w0.heap.size + 1) 0 u).trans (only_setC _ (w0.heap.size + 1) 1 v)).trans (only_setC _ (w0.heap.size + 1) 2 x)⟩
end
/-- a struct in a block of its own -/
theorem pS_new (w : World) (T : TypeId) (vals : List Value) (h1 : 1 ≤ vals.length) : OwnL (w.alloc (.cells vals.toArray T)) w.heap.size (w.alloc (.cells vals.toArray T)).heap.size [pS T w.heap.size vals] := by
  have h := World.ownsRow_lit (e := T) (size := vals.length) (base := 0) w vals.toArray 1 (Nat.zero_le _) (by unfold maxLen; omega) (by simp)
  refine ⟨fun p hp => ?_, by simp⟩
  rw [List.mem_singleton] at hp
  subst hp
  exact ⟨h, fun k e => by cases (show some w.heap.size = some k from e); simp⟩
/-- what comes back: three slices of the call's own -/
def OwnSch (w : World) (lo hi : Nat) (A : Option Addr) (n c : Nat) (sss : List (List Int)) (B : Option Addr) (m d : Nat) (ccc : List (List Int)) (C : Option Addr) (l e : Nat) (ps : List Int) : Prop :=
  sss.length = n ∧ ccc.length = m ∧ ps.length = l ∧ ∃ us vs, us.length = sss.length ∧ vs.length = ccc.length ∧ OwnL w lo hi (pR (.slice A n c) us :: pR (.slice B m d) vs :: pI (.slice C l e) ps :: (rowsL us sss ++ rowsL vs ccc))
theorem OwnSch.nil (w : World) (lo hi : Nat) : OwnSch w lo hi none 0 0 [] none 0 0 [] none 0 0 [] := by
  refine ⟨rfl, rfl, rfl, [], [], rfl, rfl, fun p hp => ?_, ?_⟩
  · simp [rowsL] at hp
    rcases hp with rfl | rfl <;> exact ⟨World.ownsRow_nil _ _ _ _, fun k e => by cases (show (none : Option Nat) = some k from e)⟩
  · simp [rowsL, pR, pI, Apart, Value.ownBlock]
theorem pR_set (v : Value) (us : List Value) (j : Nat) (u : Value) : (⟨23, 1, v, us.length, us.set j u⟩ : Pc) = pR v (us.set j u) := by unfold pR; rw [List.length_set]
theorem set4 {a b c d p : Pc} {X Y : List Pc} {k m : Nat} (h : X.length = m) : (a :: b :: c :: d :: (X ++ Y)).set (4 + m + k) p = a :: b :: c :: d :: (X ++ Y.set k p) := by
  subst h
  rw [show 4 + X.length + k = (X.length + k) + 1 + 1 + 1 + 1 by omega]
  simp only [List.set_cons_succ]
  rw [List.set_append_right _ _ (by omega), Nat.add_sub_cancel_left]
theorem at4 {a b c d : Pc} {X Y : List Pc} {k m : Nat} (h : X.length = m) : (a :: b :: c :: d :: (X ++ Y))[4 + m + k]? = Y[k]? := by
  subst h
  rw [show 4 + X.length + k = (X.length + k) + 1 + 1 + 1 + 1 by omega]
  simp only [List.getElem?_cons_succ]
  rw [List.getElem?_append_right (by omega), Nat.add_sub_cancel_left]
theorem perm4 {p a b c d : Pc} {X Y : List Pc} : (a :: b :: c :: d :: ((X ++ [p]) ++ Y)).Perm (p :: a :: b :: c :: d :: (X ++ Y)) := by
  have h : a :: b :: c :: d :: ((X ++ [p]) ++ Y) = (a :: b :: c :: d :: X) ++ p :: Y := by simp
  rw [h]
  exact List.perm_middle
theorem perm5 {p a b c d e : Pc} {X Y : List Pc} : (a :: b :: c :: d :: e :: ((X ++ [p]) ++ Y)).Perm (p :: a :: b :: c :: d :: e :: (X ++ Y)) := by
  have h : a :: b :: c :: d :: e :: ((X ++ [p]) ++ Y) = (a :: b :: c :: d :: e :: X) ++ p :: Y := by simp
  rw [h]
  exact List.perm_middle
/-- the pieces while the colleges are split -/
def Ph1 (lo g4 gp : Nat) (ccc : List (List Int)) (ps : List Int) (k j : Nat) (W : World) : Prop :=
  ∃ A1 c1 A2 c2 us vs, us.length = (colsTo ccc ps k j).length ∧ vs.length = ccc.length ∧
    OwnL W lo W.heap.size (pS 28 g4 [.slice none 0 0, .slice A1 (spO ps k + j) c1, .slice A2 (spO ps k + j) c2] :: pR (.slice A1 (spO ps k + j) c1) us :: pI (.slice A2 (spO ps k + j) c2) (List.replicate (spO ps k + j) 1) ::
      pR (.slice (some ⟨gp, 0, none⟩) ccc.length ccc.length) vs :: (rowsL us (colsTo ccc ps k j) ++ rowsL vs (prts ps ccc.length k j)))
/-- the pieces while the students' lists are made -/
def Ph2 (lo g4 gp c T : Nat) (A1 : Option Addr) (c1 : Nat) (A2 : Option Addr) (c2 : Nat) (us vs : List Value) (cols parts : List (List Int)) (AS : Option Addr) (i cS : Nat) (hs : List Value) (studs : List (List Int)) (W : World) : Prop :=
  OwnL W lo W.heap.size (pS 28 g4 [.slice AS i cS, .slice A1 T c1, .slice A2 T c2] :: pR (.slice AS i cS) hs :: pR (.slice A1 T c1) us :: pI (.slice A2 T c2) (List.replicate T 1) :: pR (.slice (some ⟨gp, 0, none⟩) c c) vs :: (rowsL hs studs ++ (rowsL us cols ++ rowsL vs parts)))
/-- .. and one list under way -/
def Ph3 (lo g4 gp c T : Nat) (A1 : Option Addr) (c1 : Nat) (A2 : Option Addr) (c2 : Nat) (us vs : List Value) (cols parts : List (List Int)) (AS : Option Addr) (i cS : Nat) (hs : List Value) (studs : List (List Int)) (v : Value) (ys : List Int) (W : World) : Prop :=
  OwnL W lo W.heap.size (pI v ys :: pS 28 g4 [.slice AS i cS, .slice A1 T c1, .slice A2 T c2] :: pR (.slice AS i cS) hs :: pR (.slice A1 T c1) us :: pI (.slice A2 T c2) (List.replicate T 1) :: pR (.slice (some ⟨gp, 0, none⟩) c c) vs :: (rowsL hs studs ++ (rowsL us cols ++ rowsL vs parts)))
theorem spL_len {P : List Int} {l : List Int} {c : Nat} (hl : l.length ≤ 3) (hb : ∀ k, k < l.length → 0 ≤ ix l k ∧ ix l k < c) (ho : spO P c ≤ 3) : (spL P l).length ≤ 9 := by
  have h1 : ∀ (m : List Int), (∀ x ∈ m, 0 ≤ x ∧ x < c) → (spL P m).length ≤ 3 * m.length := by
    intro m
    induction m with
    | nil => intro _; simp [spL]
    | cons x m ih =>
      intro h
      have h2 := ih fun y hy => h y (by simp [hy])
      have h3 := h x (by simp)
      have h4 := spO_one P (k := x.toNat) (c := c) (by omega)
      have e : spL P (x :: m) = part P x.toNat ++ spL P m := rfl
      rw [e, List.length_append]
      have : (part P x.toNat).length = pn P x.toNat := partTo_len _ _ _
      simp only [List.length_cons]
      omega
  have := h1 l fun x hx => by
    obtain ⟨i, hi, rfl⟩ := List.getElem_of_mem hx
    have := hb i hi
    rw [ix_lt hi] at this
    exact this
  omega
set_option maxRecDepth 100000 in
set_option maxHeartbeats 4000000 in
theorem implSplitSchool (A : Option Addr) (n c : Nat) (sss : List (List Int)) (B : Option Addr) (m d : Nat) (ccc : List (List Int)) (C : Option Addr) (l e : Nat) (ps : List Int) (w : World) (h : RowsAt w A n sss) (hn : n ≤ 1048576) (hx : ∀ xs ∈ sss, xs.length ≤ 1048576)
    (g : RowsAt w B m ccc) (hm : m ≤ 1048576) (hy : ∀ xs ∈ ccc, xs.length ≤ 1048576) (q : IntsAt w C l ps) (hl : l ≤ 1048576) :
    Calls Try.prog 25 #[.agg #[.slice A n c, .slice B m d, .slice C l e]] w fun er w' => ∃ A1 c1 B1 d1 C1 e1, er = .returned (.tuple #[.agg #[.slice A1 (splitS sss ccc ps).length c1, .slice B1 (splitC sss ccc ps).length d1, .slice C1 (splitP sss ccc ps).length e1], .bool (splitB sss ccc ps)]) ∧
      OwnSch w' w.heap.size w'.heap.size A1 (splitS sss ccc ps).length c1 (splitS sss ccc ps) B1 (splitC sss ccc ps).length d1 (splitC sss ccc ps) C1 (splitP sss ccc ps).length e1 (splitP sss ccc ps) ∧ Below w.heap.size w w' := by
  obtain rfl := h.len
  obtain rfl := g.len
  obtain rfl := q.len
  have HX := Lib.hid hx
  have HY := Lib.hid hy
  clear hx hy
  have K := SplW.start (c := c) (d := d) (e := e) h g q 28
  cases h1 : splitB sss ccc ps
  · have E := Lib.hid (split_no h1)
    rw [E.out.1, E.out.2.1, E.out.2.2]
    have h2 := h1
    unfold splitB at h2
    cases hs : schoolOk sss ccc ps
    · clear h2 h1
      go_enter Try.func25, Try.ntmps25
      go_wp2_with fail
      generalize (w.alloc (.cells #[.slice A sss.length c, .slice B ccc.length d, .slice C ps.length e] 28)).alloc (.cells #[.slice none 0 0, .slice none 0 0, .slice none 0 0] 28) = V at *
      (with_reducible refine (implSchoolOk _ _ _ _ _ _ _ _ _ _ _ _ _ K.s.stu hn HX.out K.s.col hm HY.out K.s.pla hl).mono ?_)
      rintro er w1 ⟨rfl, hb⟩
      rw [hs]
      have K := K.later hb
      have q0 := K.y0
      have q1 := K.y1
      have q2 := K.y2
      have f0 := K.f 0
      have f1 := K.f 1
      have f2 := K.f 2
      clear hb hs
      go_wp2
      obtain ⟨e0, e1, e2, b1, n1⟩ := K.fin (u := .slice none 0 0) (v := .slice none 0 0) (x := .slice none 0 0) rfl
      exact bodyPost_ret (v := .tuple #[.agg #[.slice none 0 0, .slice none 0 0, .slice none 0 0], .bool false]) (by simp [results, Try.results25, go_sem, e0, e1, e2]) rfl ⟨none, 0, none, 0, none, 0, rfl, OwnSch.nil _ _ _, b1⟩
    · rw [hs, Bool.true_and] at h2
      have F := Lib.hid (school_facts hs)
      have bd : ∀ x ∈ ps, 0 ≤ x ∧ x ≤ 1000000000 := fun x hx => by
        obtain ⟨i, hi, rfl⟩ := List.getElem_of_mem hx
        have := F.out.pb i (by have := F.out.pl; omega)
        rw [ix_lt hi] at this
        omega
      have BD := Lib.hid bd
      clear bd h1
      go_enter Try.func25, Try.ntmps25
      go_wp2_with fail
      generalize (w.alloc (.cells #[.slice A sss.length c, .slice B ccc.length d, .slice C ps.length e] 28)).alloc (.cells #[.slice none 0 0, .slice none 0 0, .slice none 0 0] 28) = V at *
      (with_reducible refine (implSchoolOk _ _ _ _ _ _ _ _ _ _ _ _ _ K.s.stu hn HX.out K.s.col hm HY.out K.s.pla hl).mono ?_)
      rintro er w1 ⟨rfl, hb⟩
      rw [hs]
      have K := K.later hb
      have x2 := K.s.c2
      clear hb hs
      go_wp2_with fail
      (with_reducible refine (sumOf_any _ _ _ _ _ K.s.pla hl BD.out).mono ?_)
      rintro er w2 ⟨rfl, rfl⟩
      have q0 := K.y0
      have q1 := K.y1
      have q2 := K.y2
      have f0 := K.f 0
      have f1 := K.f 1
      have f2 := K.f 2
      go_wp2_with (go_at_call 32; refine (within_any _ _ _ _).mono ?_; rintro e w' ⟨rfl, rfl⟩)
      obtain ⟨e0, e1, e2, b1, n1⟩ := K.fin (u := .slice none 0 0) (v := .slice none 0 0) (x := .slice none 0 0) rfl
      exact bodyPost_ret (v := .tuple #[.agg #[.slice none 0 0, .slice none 0 0, .slice none 0 0], .bool false]) (by simp [results, Try.results25, go_sem, e0, e1, e2]) rfl ⟨none, 0, none, 0, none, 0, rfl, OwnSch.nil _ _ _, b1⟩
  · have E := Lib.hid (split_yes h1)
    rw [E.out.1, E.out.2.1, E.out.2.2]
    have F := Lib.hid (split_facts h1)
    have h2 := h1
    unfold splitB at h2
    rw [Bool.and_eq_true] at h2
    obtain ⟨hs, h2⟩ := h2
    have BD : Hid (∀ x ∈ ps, 0 ≤ x ∧ x ≤ 1000000000) := fun x hx => by
      obtain ⟨i, hi, rfl⟩ := List.getElem_of_mem hx
      have := F.out.pb i (by have := F.out.pl; omega)
      rw [ix_lt hi] at this
      omega
    clear h1
    obtain ⟨ba, oa, _, _, rfl, _⟩ := h.at_ (show 0 < sss.length from F.out.n1)
    obtain ⟨bb, ob, _, _, rfl, _⟩ := g.at_ (show 0 < ccc.length from F.out.c1)
    obtain ⟨bp, op, rfl, _⟩ := q.at_ (show 0 < ps.length by rw [F.out.pl]; exact F.out.c1)
    go_enter Try.func25, Try.ntmps25
    go_wp2_with fail
    generalize (w.alloc (.cells #[.slice (some ⟨ba, oa, none⟩) sss.length c, .slice (some ⟨bb, ob, none⟩) ccc.length d, .slice (some ⟨bp, op, none⟩) ps.length e] 28)).alloc (.cells #[.slice none 0 0, .slice none 0 0, .slice none 0 0] 28) = V at *
    (with_reducible refine (implSchoolOk _ _ _ _ _ _ _ _ _ _ _ _ _ K.s.stu hn HX.out K.s.col hm HY.out K.s.pla hl).mono ?_)
    rintro er w1 ⟨rfl, hb⟩
    rw [hs]
    have K := K.later hb
    have x2 := K.s.c2
    clear hb hs
    go_wp2_with fail
    (with_reducible refine (sumOf_any _ _ _ _ _ K.s.pla hl BD.out).mono ?_)
    rintro er w2 ⟨rfl, rfl⟩
    have s1 := K.sz
    have b4 := triple_below w1 (.slice none 0 0) (.slice none 0 0) (.slice none 0 0) 28
    have K := K.later b4
    have P4 : OwnL (w1.alloc (.cells #[.slice none 0 0, .slice none 0 0, .slice none 0 0] 28)) w1.heap.size (w1.alloc (.cells #[.slice none 0 0, .slice none 0 0, .slice none 0 0] 28)).heap.size [pS 28 w1.heap.size [.slice none 0 0, .slice none 0 0, .slice none 0 0]] :=
      pS_new w1 28 _ (by simp)
    have x1 := K.s.c1
    have c1' := F.out.c1
    have c3' := F.out.c3
    go_wp2_with (first | (go_at_call 32; refine (within_any _ _ _ _).mono ?_; rintro e w' ⟨rfl, rfl⟩) | ((with_reducible refine wpList_make_rows _ rfl _ _ rfl ccc.length rfl rfl (by omega) ?_)))
    intro w5 ho5 hb5 hs5
    have K5 := K.laterB (b := w1.heap.size + 1) hb5 (by omega) (K.s.stu.below (by simpa using hb5)) (K.s.col.below (by simpa using hb5)) (K.s.pla.below (by simpa using hb5))
    obtain ⟨vs0, hvl, Pp⟩ := pieces_of_ownR ho5
    have P5 : Ph1 w1.heap.size w1.heap.size (w1.heap.size + 1) ccc ps 0 0 w5 := by
      refine ⟨none, 0, none, 0, [], vs0, by simp [colsTo, spC], by simpa using hvl, ?_⟩
      have h1 := P4.belowW (by simpa using hb5)
      have h2 := (h1.append Pp (.inl (by simp))).mono (lo' := w1.heap.size) (hi' := w5.heap.size) (by simp) (Nat.max_le.2 ⟨by simp; omega, by omega⟩)
      have hv2 : vs0.length = ccc.length := by simpa using hvl
      have h3 := h2.addNew (p := pI (.slice none 0 0) []) (Below.refl _ _) (World.ownsRow_nil _ _ _ _) (by omega) (fun k e => by cases (show (none : Option Nat) = some k from e))
      have h4 := h3.addNew (p := pR (.slice none 0 0) []) (Below.refl _ _) (World.ownsRow_nil _ _ _ _) (by omega) (fun k e => by cases (show (none : Option Nat) = some k from e))
      have e0 : colsTo ccc ps 0 0 = [] := rfl
      rw [prts_zero, e0]
      refine h4.perm ?_
      show (_ :: _ :: _ :: _ :: _).Perm (_ :: _ :: _ :: _ :: _)
      exact (List.Perm.swap _ _ _).trans ((List.Perm.swap _ _ _).cons _)
    have b5 := K5.bel
    clear ho5 hb5 Pp P4 b4 K hvl vs0 x1 x2 h2
    obtain ⟨g4, hg4⟩ : ∃ g4, w1.heap.size = g4 := ⟨_, rfl⟩
    rw [hg4] at P5 s1 hs5 ⊢
    clear hg4
    have x1 := K5.s.c1
    go_wp2
    go_loopw [31] (fun k_ wr => ∃ k : Nat, k ≤ ccc.length ∧ k_ = .int .i64 k ∧ Ph1 g4 g4 (g4 + 1) ccc ps k 0 wr ∧ Below g4 w5 wr) (fun k_ _ => ccc.length - (intOf k_).toNat)
    case atStart => exact ⟨0, Nat.zero_le _, rfl, P5, Below.refl _ _⟩
    case round =>
      obtain ⟨k, hk, rfl, P, hB⟩ := hrel
      have K := K5.laterB hB (by omega) (h.below (b5.trans (hB.mono (by omega)))) (g.below (b5.trans (hB.mono (by omega)))) (q.below (b5.trans (hB.mono (by omega))))
      by_cases hlt : k < ccc.length
      · have bw := b5.trans (hB.mono (by omega))
        obtain ⟨b, o, A', c', eB, _, hck0, hcc, hin0⟩ := g.at_ hlt
        cases eB
        have hck := cell_carry bw hck0
        have hxl := F.out.cl k hlt
        obtain ⟨b2, o2, eC, _, hcp⟩ := K.s.pla.at_ (show k < ps.length by rw [F.out.pl]; exact hlt)
        cases eC
        have pk := hcp k (by rw [F.out.pl]; exact hlt)
        obtain ⟨f1, f2, f3⟩ := F.out.pb k hlt
        rw [f3] at pk
        have hpn : pn ps k ≤ 3 := by omega
        have hpl : k < ps.length := by rw [F.out.pl]; exact hlt
        have x1 := K.s.c1
        have x2 := K.s.c2
        clear hcp f1 f2 f3
        obtain ⟨wo, rfl⟩ : ∃ wo, wo = wr := ⟨_, rfl⟩
        go_wp2
        go_loopw [41] (fun j_ wr => ∃ j : Nat, j ≤ pn ps k ∧ j_ = .int .i64 j ∧ Ph1 g4 g4 (g4 + 1) ccc ps k j wr ∧ Below g4 w5 wr) (fun j_ _ => pn ps k - (intOf j_).toNat)
        case atStart => exact ⟨0, Nat.zero_le _, rfl, P, hB⟩
        case round =>
          clear P hB K x1 x2 hck pk bw hck0
          obtain ⟨j, hj, rfl, P, hB⟩ := hrel
          by_cases hjl : j < pn ps k
          · obtain ⟨A1, c1, A2, c2, us, vs, hul, hvl, hO⟩ := P
            have K := K5.laterB hB (by omega) (h.below (b5.trans (hB.mono (by omega)))) (g.below (b5.trans (hB.mono (by omega)))) (q.below (b5.trans (hB.mono (by omega))))
            have hsm : spO ps k + j ≤ 2 := by have h1 := spO_one ps hlt; have h2 := F.out.o3; omega
            have hlo : g4 ≤ wr.heap.size := by have := hB.size; omega
            obtain ⟨T, hT⟩ : ∃ T, spO ps k + j = T := ⟨_, rfl⟩
            rw [hT] at hO hsm
            have HT := Lib.hid hT
            have hcl : (rowsL us (colsTo ccc ps k j)).length = T := by rw [rowsL_len hul, colsTo_len, hT]
            obtain ⟨u, huk⟩ : ∃ u, vs[k]? = some u := ⟨_, List.getElem?_eq_getElem (by omega)⟩
            have hpk := rowsL_at (xss := prts ps ccc.length k j) (by rw [prts_len]; exact hvl) huk
            rw [prts_k hlt] at hpk
            have hat := (at4 (a := pS 28 g4 [.slice none 0 0, .slice A1 T c1, .slice A2 T c2]) (b := pR (.slice A1 T c1) us) (c := pI (.slice A2 T c2) (List.replicate T 1)) (d := pR (.slice (some ⟨g4 + 1, 0, none⟩) ccc.length ccc.length) vs) (Y := rowsL vs (prts ps ccc.length k j)) (k := k) hcl).trans hpk
            obtain ⟨Ak, ck, ek⟩ := form_of (hO.at_ hat)
            change u = .slice Ak (partTo ps k j).length ck at ek
            rw [partTo_len] at ek
            subst ek
            have h3 : pR (.slice (some ⟨g4 + 1, 0, none⟩) ccc.length ccc.length) vs = ⟨23, 1, .slice (some ⟨g4 + 1, 0, none⟩) ccc.length ccc.length, ccc.length, vs⟩ := by unfold pR; rw [hvl]
            have HP := Lib.hid hO
            have HU := Lib.hid hul
            have HVL := Lib.hid hvl
            have HUK := Lib.hid huk
            have HAT := Lib.hid hat
            have HCL := Lib.hid hcl
            rw [h3] at hO
            have s1_ := hO.cellAt (i := 0) rfl 1 (by simp)
            have s2_ := hO.cellAt (i := 0) rfl 2 (by simp)
            have sf1 := hO.frozenAt (i := 0) rfl 1
            have sf2 := hO.frozenAt (i := 0) rfl 2
            have ph := (hO.cellAt (i := 3) rfl k (by omega)).trans huk
            have pf := hO.frozenAt (i := 3) rfl k
            simp only [List.getElem?_cons_succ, List.getElem?_cons_zero] at s1_ s2_
            have HH3 := Lib.hid h3
            clear hT hpk hat hcl hul hO h3 hvl huk
            have g1' : (0 : Int) ≤ (k : Int) := by omega
            have g2' : (k : Int) < (ccc.length : Int) := by omega
            have phA := old_cell ph (.cells #[.int .i64 (T : Int)] 3)
            have pfA := old_free ph pf (.cells #[.int .i64 (T : Int)] 3)
            go_wp2
            go_region_law (refine step_append_pI _ (by rfl) _ _ (by rfl) g4 (4 + T + k) j ck Ak (partTo ps k j) _ (by rfl) wr.heap.size (by simp) (HP.out.alloc _) HAT.out (T : Int) _ 1 (by rfl) (new_cell _ _ _ rfl) (by omega) (by simp; omega) ?_; intro A5 c5 w6 ho6 hb6; rw [set4 HCL.out, HH3.out] at ho6; have ph6 := (ho6.cellAt (i := 3) rfl k (by omega)).trans HUK.out; have pf6 := ho6.frozenAt (i := 3) rfl k)
            all_goals
              have hlo6 : g4 ≤ w6.heap.size := by have h1 := hb6.size; have h2 : (wr.alloc (.cells #[.int .i64 (T : Int)] 3)).drew.heap.size = wr.heap.size + 1 := World.size_alloc _ _; omega
              obtain ⟨O7, B7⟩ := ho6.storedB (i := 3) rfl hlo6 k (.slice A5 (j + 1) c5)
              have B7' : Below g4 wr (w6.setCell ⟨g4 + 1, k, none⟩ (.slice A5 (j + 1) c5)) := (((Below.refl g4 wr).alloc (by omega) _).drew.trans hb6).trans B7
              clear ph pf phA pfA ph6 pf6 s1_ s2_ sf1 sf2 ho6 hb6 B7
              obtain ⟨vs2, hvs2⟩ : ∃ vs2, vs.set k (.slice A5 (j + 1) c5) = vs2 := ⟨_, rfl⟩
              have hvl2 : vs2.length = ccc.length := by rw [← hvs2, List.length_set]; exact HVL.out
              have O8 : OwnL (w6.setCell ⟨g4 + 1, k, none⟩ (.slice A5 (j + 1) c5)) g4 (w6.setCell ⟨g4 + 1, k, none⟩ (.slice A5 (j + 1) c5)).heap.size (pS 28 g4 [.slice none 0 0, .slice A1 T c1, .slice A2 T c2] :: pR (.slice A1 T c1) us :: pI (.slice A2 T c2) (List.replicate T 1) ::
                  pR (.slice (some ⟨g4 + 1, 0, none⟩) ccc.length ccc.length) vs2 :: (rowsL us (colsTo ccc ps k j) ++ rowsL vs2 (prts ps ccc.length k (j + 1)))) := by
                rw [show partTo ps k j ++ [(T : Int)] = partTo ps k (j + 1) from by rw [partTo_succ, HT.out], rowsL_set _ _ (by rw [prts_len]; exact HVL.out), prts_set, hvs2] at O7
                rw [show pR (.slice (some ⟨g4 + 1, 0, none⟩) ccc.length ccc.length) vs2 = ⟨23, 1, .slice (some ⟨g4 + 1, 0, none⟩) ccc.length ccc.length, ccc.length, vs2⟩ from by unfold pR; rw [hvl2]]
                exact O7
              clear O7 hvs2
              generalize w6.setCell ⟨g4 + 1, k, none⟩ (.slice A5 (j + 1) c5) = w7 at *
              have hlo7 : g4 ≤ w7.heap.size := by have := B7'.size; omega
              have B57 := hB.trans B7'
              have bw7 := b5.trans (B57.mono (by omega))
              have hin7 := hin0.below bw7
              have s1_ := O8.cellAt (i := 0) rfl 1 (by simp)
              have sf1 := O8.frozenAt (i := 0) rfl 1
              simp only [List.getElem?_cons_succ, List.getElem?_cons_zero] at s1_
              have HO8 := Lib.hid O8
              clear O8 B7' K HP HAT
              have h7d : Below g4 w7 w7.drew := (Below.refl _ _).drew
              have hin7' : IntsAt w7.drew A' (rx ccc k).length (rx ccc k) := hin7
              have HO8' := Lib.hid (show OwnL w7.drew g4 w7.drew.heap.size _ from HO8.out)
              have hlo7' : g4 ≤ w7.drew.heap.size := hlo7
              go_wp2
              go_region_law (first
                | (refine step_append_pR _ (by rfl) _ _ (by rfl) g4 2 T c1 A1 us (pI (.slice A8 (rx ccc k).length c8) (rx ccc k) :: _) (by rfl) w8.heap.size (by simp) (HO9.out.alloc _) (by rfl) (.slice A8 (rx ccc k).length c8) _ 1 (by rfl) (new_cell _ _ _ rfl) (by rfl) (by omega) (by simp; omega) ?_; intro A9 c9 w9 ho9 hb9; have s9_ := ho9.cellAt (i := 1) rfl 1 (by simp); have sf9 := ho9.frozenAt (i := 1) rfl 1; simp only [List.getElem?_cons_succ, List.getElem?_cons_zero] at s9_)
                | (go_simp; go_at_call 43; (with_reducible refine (clone_any A' _ c' (rx ccc k) _ hin7' (by omega)).mono ?_); rintro er w8 ⟨A8, c8, rfl, o8, hb8⟩; have hlo8 := Nat.le_trans hlo7' hb8.size; have s8_ := cell_carry (w := w7.drew) hb8 s1_; have s8a := old_cell s8_ (.cells #[.slice A8 (rx ccc k).length c8] 23); have HO9 := Lib.hid (HO8'.out.addNew hb8 (pI_new (w := w7.drew) o8 (Nat.le_refl _)).1 hlo7' (pI_new (w := w7.drew) o8 (Nat.le_refl _)).2)))
              all_goals
                have hlo9 : g4 ≤ w9.heap.size := by have h1 := hb9.size; have h2 : (w8.alloc (.cells #[.slice A8 (rx ccc k).length c8] 23)).heap.size = w8.heap.size + 1 := World.size_alloc _ _; omega
                obtain ⟨O10, B10⟩ := ho9.storedB (i := 1) rfl hlo9 1 (.slice A9 (T + 1) c9)
                have B10' : Below g4 w7 (w9.setCell ⟨g4, 1, none⟩ (.slice A9 (T + 1) c9)) := (((h7d.trans (hb8.mono hlo7')).alloc hlo8 _).trans hb9).trans B10
                have O11 : OwnL (w9.setCell ⟨g4, 1, none⟩ (.slice A9 (T + 1) c9)) g4 (w9.setCell ⟨g4, 1, none⟩ (.slice A9 (T + 1) c9)).heap.size (pS 28 g4 [.slice none 0 0, .slice A9 (T + 1) c9, .slice A2 T c2] :: pR (.slice A9 (T + 1) c9) (us ++ [.slice A8 (rx ccc k).length c8]) :: pI (.slice A2 T c2) (List.replicate T 1) ::
                    pR (.slice (some ⟨g4 + 1, 0, none⟩) ccc.length ccc.length) vs2 :: (rowsL (us ++ [.slice A8 (rx ccc k).length c8]) (colsTo ccc ps k (j + 1)) ++ rowsL vs2 (prts ps ccc.length k (j + 1)))) := by
                  rw [colsTo_succ, rowsL_append HU.out]
                  exact O10.perm perm4
                clear O10 B10 ho9 hb9 s9_ sf9 s8_ s8a HO9 hb8 o8 hlo8 hlo9
                have hlen9 : (us ++ [Value.slice A8 (rx ccc k).length c8]).length = (colsTo ccc ps k (j + 1)).length := by rw [colsTo_succ, List.length_append, List.length_append, HU.out]; rfl
                generalize w9.setCell ⟨g4, 1, none⟩ (.slice A9 (T + 1) c9) = w10 at *
                generalize us ++ [Value.slice A8 (rx ccc k).length c8] = us2 at *
                have hlo10 : g4 ≤ w10.heap.size := by have := B10'.size; omega
                have s10 := O11.cellAt (i := 0) rfl 2 (by simp)
                simp only [List.getElem?_cons_succ, List.getElem?_cons_zero] at s10
                have HL9 := Lib.hid hlen9
                have HO11 := Lib.hid O11
                clear hlen9 O11 s1_ sf1
                go_wp2_with (at_builtin; refine wpList_append_pI _ rfl _ _ rfl g4 2 T c2 A2 (List.replicate T 1) _ rfl w10.heap.size (by simp) (HO11.out.alloc _) rfl 1 _ 1 rfl (new_cell _ _ _ rfl) (by omega) (by simp; omega) ?_)
                intro A12 c12 w12 ho12 hb12
                have hlo12 : g4 ≤ w12.heap.size := by have h1 := hb12.size; have h2 : (w10.alloc (.cells #[.int .i64 1] 3)).heap.size = w10.heap.size + 1 := World.size_alloc _ _; omega
                have s12 := ho12.cellAt (i := 0) rfl 2 (by simp)
                have sf12 := ho12.frozenAt (i := 0) rfl 2
                simp only [List.getElem?_cons_succ, List.getElem?_cons_zero] at s12
                obtain ⟨O13, B13⟩ := ho12.storedB (i := 0) rfl hlo12 2 (.slice A12 (T + 1) c12)
                have HB13 := Lib.hid (B57.trans (((B10'.alloc hlo10 _).trans hb12).trans B13))
                have P13 : Ph1 g4 g4 (g4 + 1) ccc ps k (j + 1) (w12.setCell ⟨g4, 2, none⟩ (.slice A12 (T + 1) c12)) := by
                  have eT : T + 1 = spO ps k + (j + 1) := by have := HT.out; omega
                  refine ⟨A9, c9, A12, c12, us2, vs2, HL9.out, hvl2, ?_⟩
                  rw [← eT, show List.replicate (T + 1) (1 : Int) = List.replicate T 1 ++ [1] from by rw [List.replicate_succ']]
                  exact O13
                have HP13 := Lib.hid P13
                clear ho12 hb12 O13 B13 P13 s10 B10' B57 HO11 HL9
                go_wp2
                go_roundw
                case rel => exact ⟨j + 1, by omega, by go_num, HP13.out, HB13.out⟩
                case measure => simp [intOf]; omega
          · obtain rfl : j = pn ps k := by omega
            have P2 : Ph1 g4 g4 (g4 + 1) ccc ps (k + 1) 0 wr := by
              obtain ⟨A1, c1, A2, c2, us, vs, h1, h2, h3⟩ := P
              rw [prts_next, colsTo_next] at h3
              rw [colsTo_next] at h1
              exact ⟨A1, c1, A2, c2, us, vs, h1, h2, h3⟩
            clear P
            go_wp2
            go_roundw
            case rel => exact ⟨k + 1, by omega, by go_num, P2, hB⟩
            case measure => simp [intOf]; omega
      · obtain rfl : k = ccc.length := by omega
        obtain ⟨A1, c1, A2, c2, us, vs, hul, hvl, hO⟩ := P
        obtain ⟨T, hT⟩ : ∃ T, spO ps ccc.length + 0 = T := ⟨_, rfl⟩
        rw [hT] at hO
        have HT := Lib.hid (show spO ps ccc.length = T from hT)
        have hT3 : T ≤ 3 := by have := F.out.o3; omega
        have HUL := Lib.hid hul
        have HVL := Lib.hid hvl
        have x0 := K.s.c0
        have Bw := hB
        have bw := b5.trans (hB.mono (by omega))
        have P0 : Ph2 g4 g4 (g4 + 1) ccc.length T A1 c1 A2 c2 us vs (colsTo ccc ps ccc.length 0) (prts ps ccc.length ccc.length 0) none 0 0 [] (spS ps (sss.take 0)) wr := by
          have h1 := hO.addNew (p := pR (.slice none 0 0) []) (Below.refl _ _) (World.ownsRow_nil _ _ _ _) (by have := hB.size; omega) (fun k e => by cases (show (none : Option Nat) = some k from e))
          exact h1.perm (List.Perm.swap _ _ _)
        obtain ⟨wo, rfl⟩ : ∃ wo, wo = wr := ⟨_, rfl⟩
        have hsn := F.out.n5
        have hlo0 : g4 ≤ wo.heap.size := by have := hB.size; omega
        have KW := Lib.hid K5
        clear hul hvl hO hT P5 K K5 x1 hB hlt hk
        generalize hcols : colsTo ccc ps ccc.length 0 = cols at *
        generalize hparts : prts ps ccc.length ccc.length 0 = parts at *
        have HCO := Lib.hid hcols
        have HPA := Lib.hid hparts
        clear hcols hparts
        go_wp2
        go_loopw [72] (fun i_ wr => ∃ (i : Nat) (AS : Option Addr) (cS : Nat) (hs : List Value), i ≤ sss.length ∧ i_ = .int .i64 i ∧ hs.length = (spS ps (sss.take i)).length ∧ Ph2 g4 g4 (g4 + 1) ccc.length T A1 c1 A2 c2 us vs cols parts AS i cS hs (spS ps (sss.take i)) wr ∧ Below g4 wo wr) (fun i_ _ => sss.length - (intOf i_).toNat)
        case atStart => exact ⟨0, none, 0, [], Nat.zero_le _, rfl, rfl, P0, Below.refl _ _⟩
        case round =>
          clear P0
          obtain ⟨i, AS, cS, hs, hi, rfl, hhl, P, hB⟩ := hrel
          have hlo1 : g4 ≤ wr.heap.size := by have := hB.size; omega
          by_cases hlt : i < sss.length
          · have bw1 := bw.trans (hB.mono (by omega))
            obtain ⟨b, o, A', c', eA, _, hck0, hcc, hin0⟩ := h.at_ hlt
            cases eA
            have hck := cell_carry bw1 hck0
            have hxl := F.out.sl i hlt
            have HSB := Lib.hid (F.out.sb i hlt)
            have HHL := Lib.hid hhl
            have P3 : Ph3 g4 g4 (g4 + 1) ccc.length T A1 c1 A2 c2 us vs cols parts AS i cS hs (spS ps (sss.take i)) (.slice none 0 0) (spL ps ((rx sss i).take 0)) wr :=
              OwnL.addNew P (p := pI (.slice none 0 0) []) (Below.refl _ _) (World.ownsRow_nil _ _ _ _) hlo1 (fun k e => by cases (show (none : Option Nat) = some k from e))
            obtain ⟨w2, rfl⟩ : ∃ w2, w2 = wr := ⟨_, rfl⟩
            clear hhl P hck0
            go_wp2
            go_loopw [10, 78] (fun v_ j_ wr => ∃ (j : Nat) (AO : Option Addr) (cO : Nat), j ≤ (rx sss i).length ∧ j_ = .int .i64 j ∧ v_ = .slice AO (spL ps ((rx sss i).take j)).length cO ∧ Ph3 g4 g4 (g4 + 1) ccc.length T A1 c1 A2 c2 us vs cols parts AS i cS hs (spS ps (sss.take i)) v_ (spL ps ((rx sss i).take j)) wr ∧ Below g4 w2 wr) (fun _ j_ _ => (rx sss i).length - (intOf j_).toNat)
            case atStart => exact ⟨0, none, 0, Nat.zero_le _, rfl, rfl, P3, Below.refl _ _⟩
            case round =>
              clear P3 hck
              obtain ⟨j, AO, cO, hj, rfl, rfl, P, hB2⟩ := hrel
              by_cases hjl : j < (rx sss i).length
              · have bw2 := bw1.trans (hB2.mono (by omega))
                have hlo2 : g4 ≤ wr.heap.size := by have := hB2.size; omega
                obtain ⟨b3, o3, rfl, _, hc3⟩ := (hin0.below bw2).at_ hjl
                have hcj := hc3 j hjl
                obtain ⟨k1, k2⟩ := HSB.out j hjl
                have HTK := Lib.hid (spL_take (P := ps) hjl)
                obtain ⟨q_, hq_⟩ : ∃ q_ : Nat, ix (rx sss i) j = (q_ : Int) := ⟨(ix (rx sss i) j).toNat, by omega⟩
                rw [hq_] at hcj k1 k2
                have HQ := Lib.hid hq_
                have hqc : q_ < ccc.length := by omega
                obtain ⟨u, huk⟩ : ∃ u, vs[q_]? = some u := ⟨_, List.getElem?_eq_getElem (by rw [HVL.out]; exact hqc)⟩
                have hpl2 : vs.length = parts.length := by rw [HVL.out, ← HPA.out, prts_len]
                have hpk := rowsL_at hpl2 huk
                have hm : pI u (rx parts q_) ∈ (pI (.slice AO (spL ps ((rx sss i).take j)).length cO) (spL ps ((rx sss i).take j)) :: pS 28 g4 [.slice AS i cS, .slice A1 T c1, .slice A2 T c2] :: pR (.slice AS i cS) hs :: pR (.slice A1 T c1) us :: pI (.slice A2 T c2) (List.replicate T 1) :: pR (.slice (some ⟨g4 + 1, 0, none⟩) ccc.length ccc.length) vs :: (rowsL hs (spS ps (sss.take i)) ++ (rowsL us cols ++ rowsL vs parts))) := by
                  simp only [List.mem_cons, List.mem_append, List.mem_of_getElem? hpk, or_true]
                have hpo := P.1 _ hm
                have hou := (pI_own hpo.1 hpo.2)
                rw [show rx parts q_ = part ps q_ from by rw [← HPA.out, prts_end hqc]] at hou
                obtain ⟨Ak, ck, eu, _⟩ := hou.len
                have hpn3 : (part ps q_).length ≤ 3 := by rw [show (part ps q_).length = pn ps q_ from partTo_len _ _ _]; have h1 := spO_one ps hqc; have h2 := F.out.o3; omega
                subst eu
                have hia := hou.at_
                have hph := P.cellAt (i := 5) (by unfold pR; rw [HVL.out]; rfl) q_ (by omega)
                rw [huk] at hph
                have hyl : (spL ps ((rx sss i).take j)).length ≤ 9 := spL_len (c := ccc.length) (by simp; omega) (fun k hk => by
                  have hk2 : k < j := by simp at hk; omega
                  have := HSB.out k (by omega)
                  unfold ix at this ⊢
                  simp only [List.getD] at this ⊢
                  rw [List.getElem?_take_of_lt hk2]
                  exact this) F.out.o3
                have HTK2 : Hid (spL ps ((rx sss i).take (j + 1)) = spL ps ((rx sss i).take j) ++ part ps q_) := by
                  show _ = _
                  rw [HTK.out, HQ.out]
                  rfl
                have HP := Lib.hid P
                clear hc3 hq_ hpk hm hpo hou P huk hpl2 HTK
                generalize spL ps ((rx sss i).take j) = ys at *
                generalize part ps q_ = pq at *
                have k3 : (0 : Int) ≤ (q_ : Int) := by omega
                have k4 : (q_ : Int) < (ccc.length : Int) := by omega
                go_wp2_with (at_builtin; refine wpList_append_pIs _ rfl _ _ rfl g4 0 ys.length cO AO ys _ rfl wr.heap.size (Nat.le_refl _) HP.out rfl Ak pq.length ck pq rfl hia (by omega) hlo2 ?_)
                intro A7 c7 w7 ho7 hb7
                have HP7 : Hid (Ph3 g4 g4 (g4 + 1) ccc.length T A1 c1 A2 c2 us vs cols parts AS i cS hs (spS ps (sss.take i)) (.slice A7 (ys.length + pq.length) c7) (spL ps ((rx sss i).take (j + 1))) w7) := by
                  show Ph3 _ _ _ _ _ _ _ _ _ _ _ _ _ _ _ _ _ _ _ _ _
                  rw [HTK2.out]
                  exact ho7
                have HLL : Hid (ys.length + pq.length = (spL ps ((rx sss i).take (j + 1))).length) := by show _ = _; rw [HTK2.out, List.length_append]
                have HB7 := Lib.hid (hB2.trans hb7)
                clear ho7 hb7 hB2 HP hia hph hcj
                go_wp2
                go_roundw
                case rel => exact ⟨j + 1, A7, c7, by omega, by go_num, by rw [HLL.out], by rw [HLL.out]; rw [HLL.out] at HP7; exact HP7.out, HB7.out⟩
                case measure => simp [intOf]; omega
              · obtain rfl : j = (rx sss i).length := by omega
                rw [List.take_length] at P ⊢
                have hlo2 : g4 ≤ wr.heap.size := by have := hB2.size; omega
                have hyl : (spL ps (rx sss i)).length ≤ 9 := spL_len (c := ccc.length) hxl HSB.out F.out.o3
                have HTS := Lib.hid (spS_take (P := ps) hlt)
                generalize spL ps (rx sss i) = ys at *
                have hhs : hs.length = i := by rw [HHL.out]; simp [spS]; omega
                have s0_ := P.cellAt (i := 1) rfl 0 (by simp)
                simp only [List.getElem?_cons_zero] at s0_
                have HP := Lib.hid P
                have HHS := Lib.hid hhs
                clear P hhs
                go_wp2_with (at_builtin; refine wpList_append_pR _ rfl _ _ rfl g4 2 i cS AS hs _ rfl wr.heap.size (by simp) (HP.out.alloc _) rfl (.slice AO ys.length cO) _ 1 rfl (new_cell _ _ _ rfl) rfl (by omega) (by simp; omega) ?_)
                intro A7 c7 w7 ho7 hb7
                have hlo7 : g4 ≤ w7.heap.size := by have h1 := hb7.size; have h2 : (wr.alloc (.cells #[.slice AO ys.length cO] 23)).heap.size = wr.heap.size + 1 := World.size_alloc _ _; omega
                have s7 := ho7.cellAt (i := 1) rfl 0 (by simp)
                have sf7 := ho7.frozenAt (i := 1) rfl 0
                simp only [List.getElem?_cons_zero] at s7
                obtain ⟨O8, B8⟩ := ho7.storedB (i := 1) rfl hlo7 0 (.slice A7 (i + 1) c7)
                have HB8 := Lib.hid (hB.trans ((((hB2.alloc hlo2 _)).trans hb7).trans B8))
                have HP8 : Hid (Ph2 g4 g4 (g4 + 1) ccc.length T A1 c1 A2 c2 us vs cols parts A7 (i + 1) c7 (hs ++ [.slice AO ys.length cO]) (spS ps (sss.take (i + 1))) (w7.setCell ⟨g4, 0, none⟩ (.slice A7 (i + 1) c7))) := by
                  show Ph2 _ _ _ _ _ _ _ _ _ _ _ _ _ _ _ _ _ _ _
                  rw [HTS.out]
                  unfold Ph2
                  rw [rowsL_append (by rw [HHL.out])]
                  exact O8.perm perm5
                have HL8 : Hid ((hs ++ [Value.slice AO ys.length cO]).length = (spS ps (sss.take (i + 1))).length) := by show _ = _; rw [HTS.out, List.length_append, List.length_append, HHL.out]; rfl
                generalize hs ++ [Value.slice AO ys.length cO] = hs2 at *
                clear ho7 hb7 O8 B8 hB hB2 HP s0_
                go_wp2
                go_roundw
                case rel => exact ⟨i + 1, A7, c7, hs2, by omega, by go_num, HL8.out, HP8.out, HB8.out⟩
                case measure => simp [intOf]; omega
          · obtain rfl : i = sss.length := by omega
            rw [List.take_length] at P hhl
            have hhs : hs.length = sss.length := by rw [hhl]; simp [spS]
            have s0_ := P.cellAt (i := 0) rfl 0 (by simp)
            have s1_ := P.cellAt (i := 0) rfl 1 (by simp)
            have s2_ := P.cellAt (i := 0) rfl 2 (by simp)
            simp only [List.getElem?_cons_succ, List.getElem?_cons_zero] at s0_ s1_ s2_
            have bw3 := bw.trans (hB.mono (by omega))
            have K := KW.out.laterB (Bw.trans hB) (by omega) (h.below bw3) (g.below bw3) (q.below bw3)
            have q0 := K.y0
            have q1 := K.y1
            have q2 := K.y2
            have f0 := K.f 0
            have f1 := K.f 1
            have f2 := K.f 2
            have HP := Lib.hid P
            have HHL := Lib.hid hhl
            clear P KW hhl
            go_wp2
            obtain ⟨e0, e1, e2, b1, n1⟩ := K.fin (u := .slice AS sss.length cS) (v := .slice A1 T c1) (x := .slice A2 T c2) rfl
            have hcl : (spC ccc ps ccc.length).length = T := by rw [spC_len]; exact HT.out
            have hsl : (spS ps sss).length = sss.length := by simp [spS]
            have hpl : (List.replicate (spO ps ccc.length) (1 : Int)).length = T := by rw [List.length_replicate]; exact HT.out
            rw [hcl, hsl, hpl]
            refine bodyPost_ret (v := .tuple #[.agg #[.slice AS sss.length cS, .slice A1 T c1, .slice A2 T c2], .bool true]) (by simp [results, Try.results25, go_sem, e0, e1, e2]) rfl ⟨AS, cS, A1, c1, A2, c2, rfl, ?_, b1⟩
            have hco : cols = spC ccc ps ccc.length := by rw [← HCO.out]; unfold colsTo; simp
            refine ⟨hsl, hcl, hpl, hs, us, HHL.out, by rw [HUL.out, ← hco], ?_⟩
            have hO : OwnL wr g4 wr.heap.size (pR (.slice AS sss.length cS) hs :: pR (.slice A1 T c1) us :: pI (.slice A2 T c2) (List.replicate T 1) :: (rowsL hs (spS ps sss) ++ rowsL us cols)) := by
              refine HP.out.sub ?_
              refine List.Sublist.cons _ (List.Sublist.cons_cons _ (List.Sublist.cons_cons _ (List.Sublist.cons_cons _ (List.Sublist.cons _ ?_))))
              exact (List.Sublist.refl _).append (List.sublist_append_left _ _)
            rw [← hco, HT.out]
            exact (hO.only n1 (.inr (by omega))).mono (by omega) n1.size
end Go.Proofs.Ytmakbndlobaaaaa
