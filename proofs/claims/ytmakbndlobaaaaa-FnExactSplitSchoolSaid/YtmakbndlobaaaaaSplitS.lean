/- The reference's SplitSchool. -/
import Derived.Test.YtmakbndlobaaaaaSplitI
namespace Go.Proofs.Ytmakbndlobaaaaa
set_option linter.unusedVariables false
open Go.RowKit

def offs (P : List Int) (k : Nat) : List Int := (List.range k).map fun i => (spO P i : Int)
theorem offs_succ (P : List Int) (k : Nat) : offs P (k + 1) = offs P k ++ [(spO P k : Int)] := by unfold offs; rw [List.range_succ, List.map_append]; rfl
theorem offs_len (P : List Int) (k : Nat) : (offs P k).length = k := by simp [offs]
theorem offs_at {P : List Int} {k i : Nat} (h : i < k) : ix (offs P k) i = (spO P i : Int) := by rw [ix_lt (by rw [offs_len]; exact h)]; simp [offs]
theorem perm3 {p a b c d : Pc} {X : List Pc} : (a :: b :: c :: d :: (X ++ [p])).Perm (p :: a :: b :: c :: d :: X) := by
  have h : a :: b :: c :: d :: (X ++ [p]) = (a :: b :: c :: d :: X) ++ p :: [] := by simp
  rw [h]
  have := List.perm_middle (a := p) (l₁ := a :: b :: c :: d :: X) (l₂ := [])
  simpa using this
/-- the pieces while the students' lists are made -/
def PhT (lo g4 T : Nat) (A1 : Option Addr) (c1 : Nat) (A2 : Option Addr) (c2 : Nat) (us : List Value) (cols : List (List Int)) (vf : Value) (fs : List Int) (AS : Option Addr) (i cS : Nat) (hs : List Value) (studs : List (List Int)) (W : World) : Prop :=
  OwnL W lo W.heap.size (pS 28 g4 [.slice AS i cS, .slice A1 T c1, .slice A2 T c2] :: pR (.slice AS i cS) hs :: pR (.slice A1 T c1) us :: pI (.slice A2 T c2) (List.replicate T 1) :: pI vf fs :: (rowsL hs studs ++ rowsL us cols))
/-- .. and one list under way -/
def PhU (lo g4 T : Nat) (A1 : Option Addr) (c1 : Nat) (A2 : Option Addr) (c2 : Nat) (us : List Value) (cols : List (List Int)) (vf : Value) (fs : List Int) (AS : Option Addr) (i cS : Nat) (hs : List Value) (studs : List (List Int)) (v : Value) (ys : List Int) (W : World) : Prop :=
  OwnL W lo W.heap.size (pI v ys :: pS 28 g4 [.slice AS i cS, .slice A1 T c1, .slice A2 T c2] :: pR (.slice AS i cS) hs :: pR (.slice A1 T c1) us :: pI (.slice A2 T c2) (List.replicate T 1) :: pI vf fs :: (rowsL hs studs ++ rowsL us cols))
/-- the pieces while the colleges are split -/
def PhS (lo g4 : Nat) (ccc : List (List Int)) (ps : List Int) (k j : Nat) (v : Value) (fs : List Int) (W : World) : Prop :=
  ∃ A1 c1 A2 c2 us, us.length = (colsTo ccc ps k j).length ∧
    OwnL W lo W.heap.size (pS 28 g4 [.slice none 0 0, .slice A1 (spO ps k + j) c1, .slice A2 (spO ps k + j) c2] :: pR (.slice A1 (spO ps k + j) c1) us :: pI (.slice A2 (spO ps k + j) c2) (List.replicate (spO ps k + j) 1) :: pI v fs :: rowsL us (colsTo ccc ps k j))
set_option maxRecDepth 100000 in
set_option maxHeartbeats 4000000 in
theorem specSplitSchool (A : Option Addr) (n c : Nat) (sss : List (List Int)) (B : Option Addr) (m d : Nat) (ccc : List (List Int)) (C : Option Addr) (l e : Nat) (ps : List Int) (w : World) (h : RowsAt w A n sss) (hn : n ≤ 1048576) (hx : ∀ xs ∈ sss, xs.length ≤ 1048576)
    (g : RowsAt w B m ccc) (hm : m ≤ 1048576) (hy : ∀ xs ∈ ccc, xs.length ≤ 1048576) (q : IntsAt w C l ps) (hl : l ≤ 1048576) :
    Calls Try.prog 24 #[.agg #[.slice A n c, .slice B m d, .slice C l e]] w fun er w' => ∃ A1 c1 B1 d1 C1 e1, er = .returned (.tuple #[.agg #[.slice A1 (splitS sss ccc ps).length c1, .slice B1 (splitC sss ccc ps).length d1, .slice C1 (splitP sss ccc ps).length e1], .bool (splitB sss ccc ps)]) ∧
      OwnSch w' w.heap.size w'.heap.size A1 (splitS sss ccc ps).length c1 (splitS sss ccc ps) B1 (splitC sss ccc ps).length d1 (splitC sss ccc ps) C1 (splitP sss ccc ps).length e1 (splitP sss ccc ps) ∧ Below w.heap.size w w' := by
  obtain rfl := h.len
  obtain rfl := g.len
  obtain rfl := q.len
  have HX := Lib.hid hx
  have HY := Lib.hid hy
  clear hx hy
  have K := SplW.start (c := c) (d := d) (e := e) h g q 28
  cases h1 : splitB sss ccc ps
  · have E := Lib.hid (split_no h1)
    rw [E.out.1, E.out.2.1, E.out.2.2]
    have h2 := h1
    unfold splitB at h2
    cases hs : schoolOk sss ccc ps
    · clear h2 h1
      go_enter Try.func24, Try.ntmps24
      go_wp2_with fail
      generalize (w.alloc (.cells #[.slice A sss.length c, .slice B ccc.length d, .slice C ps.length e] 28)).alloc (.cells #[.slice none 0 0, .slice none 0 0, .slice none 0 0] 28) = V at *
      (with_reducible refine (specSchoolOk _ _ _ _ _ _ _ _ _ _ _ _ _ K.s.stu hn HX.out K.s.col hm HY.out K.s.pla hl).mono ?_)
      rintro er w1 ⟨rfl, hb⟩
      rw [hs]
      have K := K.later hb
      have q0 := K.y0
      have q1 := K.y1
      have q2 := K.y2
      have f0 := K.f 0
      have f1 := K.f 1
      have f2 := K.f 2
      clear hb hs
      go_wp2
      obtain ⟨e0, e1, e2, b1, n1⟩ := K.fin (u := .slice none 0 0) (v := .slice none 0 0) (x := .slice none 0 0) rfl
      exact bodyPost_ret (v := .tuple #[.agg #[.slice none 0 0, .slice none 0 0, .slice none 0 0], .bool false]) (by simp [results, Try.results24, go_sem, e0, e1, e2]) rfl ⟨none, 0, none, 0, none, 0, rfl, OwnSch.nil _ _ _, b1⟩
    · rw [hs, Bool.true_and] at h2
      have F := Lib.hid (school_facts hs)
      have bd : ∀ x ∈ ps, 0 ≤ x ∧ x ≤ 1000000000 := fun x hx => by
        obtain ⟨i, hi, rfl⟩ := List.getElem_of_mem hx
        have := F.out.pb i (by have := F.out.pl; omega)
        rw [ix_lt hi] at this
        omega
      have BD := Lib.hid bd
      clear bd h1
      go_enter Try.func24, Try.ntmps24
      go_wp2_with fail
      generalize (w.alloc (.cells #[.slice A sss.length c, .slice B ccc.length d, .slice C ps.length e] 28)).alloc (.cells #[.slice none 0 0, .slice none 0 0, .slice none 0 0] 28) = V at *
      (with_reducible refine (specSchoolOk _ _ _ _ _ _ _ _ _ _ _ _ _ K.s.stu hn HX.out K.s.col hm HY.out K.s.pla hl).mono ?_)
      rintro er w1 ⟨rfl, hb⟩
      rw [hs]
      have K := K.later hb
      have x2 := K.s.c2
      clear hb hs
      go_wp2_with fail
      (with_reducible refine (l13Sum_any _ _ _ _ _ K.s.pla hl BD.out).mono ?_)
      rintro er w2 ⟨rfl, rfl⟩
      have q0 := K.y0
      have q1 := K.y1
      have q2 := K.y2
      have f0 := K.f 0
      have f1 := K.f 1
      have f2 := K.f 2
      go_wp2_with (go_at_call 29; refine (l01In_any _ _ _ _).mono ?_; rintro e w' ⟨rfl, rfl⟩)
      obtain ⟨e0, e1, e2, b1, n1⟩ := K.fin (u := .slice none 0 0) (v := .slice none 0 0) (x := .slice none 0 0) rfl
      exact bodyPost_ret (v := .tuple #[.agg #[.slice none 0 0, .slice none 0 0, .slice none 0 0], .bool false]) (by simp [results, Try.results24, go_sem, e0, e1, e2]) rfl ⟨none, 0, none, 0, none, 0, rfl, OwnSch.nil _ _ _, b1⟩
  · have E := Lib.hid (split_yes h1)
    rw [E.out.1, E.out.2.1, E.out.2.2]
    have F := Lib.hid (split_facts h1)
    have h2 := h1
    unfold splitB at h2
    rw [Bool.and_eq_true] at h2
    obtain ⟨hs, h2⟩ := h2
    have BD : Hid (∀ x ∈ ps, 0 ≤ x ∧ x ≤ 1000000000) := fun x hx => by
      obtain ⟨i, hi, rfl⟩ := List.getElem_of_mem hx
      have := F.out.pb i (by have := F.out.pl; omega)
      rw [ix_lt hi] at this
      omega
    clear h1
    obtain ⟨ba, oa, _, _, rfl, _⟩ := h.at_ (show 0 < sss.length from F.out.n1)
    obtain ⟨bb, ob, _, _, rfl, _⟩ := g.at_ (show 0 < ccc.length from F.out.c1)
    obtain ⟨bp, op, rfl, _⟩ := q.at_ (show 0 < ps.length by rw [F.out.pl]; exact F.out.c1)
    go_enter Try.func24, Try.ntmps24
    go_wp2_with fail
    generalize (w.alloc (.cells #[.slice (some ⟨ba, oa, none⟩) sss.length c, .slice (some ⟨bb, ob, none⟩) ccc.length d, .slice (some ⟨bp, op, none⟩) ps.length e] 28)).alloc (.cells #[.slice none 0 0, .slice none 0 0, .slice none 0 0] 28) = V at *
    (with_reducible refine (specSchoolOk _ _ _ _ _ _ _ _ _ _ _ _ _ K.s.stu hn HX.out K.s.col hm HY.out K.s.pla hl).mono ?_)
    rintro er w1 ⟨rfl, hb⟩
    rw [hs]
    have K := K.later hb
    have x2 := K.s.c2
    clear hb hs
    go_wp2_with fail
    (with_reducible refine (l13Sum_any _ _ _ _ _ K.s.pla hl BD.out).mono ?_)
    rintro er w2 ⟨rfl, rfl⟩
    have s1 := K.sz
    have b4 := triple_below w1 (.slice none 0 0) (.slice none 0 0) (.slice none 0 0) 28
    have K := K.later b4
    have P4 : OwnL (w1.alloc (.cells #[.slice none 0 0, .slice none 0 0, .slice none 0 0] 28)) w1.heap.size (w1.alloc (.cells #[.slice none 0 0, .slice none 0 0, .slice none 0 0] 28)).heap.size [pS 28 w1.heap.size [.slice none 0 0, .slice none 0 0, .slice none 0 0]] :=
      pS_new w1 28 _ (by simp)
    have x1 := K.s.c1
    have c1' := F.out.c1
    have c3' := F.out.c3
    have e5 := (Below.refl (w1.alloc (.cells #[.slice none 0 0, .slice none 0 0, .slice none 0 0] 28)).heap.size _).alloc (Nat.le_refl _) (.cells #[] 3)
    have K5 := K.later e5
    have x1 := K5.s.c1
    have b5 := K5.bel
    have P5 : PhS w1.heap.size w1.heap.size ccc ps 0 0 (.slice (some ⟨w1.heap.size + 1, 0, none⟩) 0 0) (offs ps 0) ((w1.alloc (.cells #[.slice none 0 0, .slice none 0 0, .slice none 0 0] 28)).alloc (.cells #[] 3)) := by
      have h0 := P4.addEmpty (by simp)
      have h3 := h0.addNew (p := pI (.slice none 0 0) []) (Below.refl _ _) (World.ownsRow_nil _ _ _ _) (by simp; omega) (fun k e => by cases (show (none : Option Nat) = some k from e))
      have h4 := h3.addNew (p := pR (.slice none 0 0) []) (Below.refl _ _) (World.ownsRow_nil _ _ _ _) (by simp; omega) (fun k e => by cases (show (none : Option Nat) = some k from e))
      refine ⟨none, 0, none, 0, [], rfl, h4.perm ?_⟩
      rw [World.size_alloc]
      show ([_, _, _, _] : List Pc).Perm [_, _, _, _]
      exact ((List.Perm.swap _ _ _).trans ((List.Perm.swap _ _ _).cons _)).trans (((List.Perm.refl _).cons _).cons _ |>.trans (by exact (List.Perm.swap _ _ _).cons _ |>.cons _ |>.trans (List.Perm.refl _)))
    have hs5 : ((w1.alloc (.cells #[.slice none 0 0, .slice none 0 0, .slice none 0 0] 28)).alloc (.cells #[] 3)).heap.size = w1.heap.size + 1 + 1 := by simp
    go_wp2_with (go_at_call 29; refine (l01In_any _ _ _ _).mono ?_; rintro e w' ⟨rfl, rfl⟩)
    obtain ⟨w5, hw5⟩ : ∃ w5, (w1.alloc (.cells #[.slice none 0 0, .slice none 0 0, .slice none 0 0] 28)).alloc (.cells #[] 3) = w5 := ⟨_, rfl⟩
    rw [hw5] at P5 K5 b5 hs5 x1 ⊢
    clear hw5 e5 P4 b4 K x2 h2
    obtain ⟨g4, hg4⟩ : ∃ g4, w1.heap.size = g4 := ⟨_, rfl⟩
    rw [hg4] at P5 s1 hs5 ⊢
    clear hg4
    go_loopw [5, 31] (fun v_ k_ wr => ∃ (k : Nat) (A3 : Option Addr) (c3 : Nat), k ≤ ccc.length ∧ k_ = .int .i64 k ∧ v_ = .slice A3 k c3 ∧ PhS g4 g4 ccc ps k 0 v_ (offs ps k) wr ∧ Below g4 w5 wr) (fun _ k_ _ => ccc.length - (intOf k_).toNat)
    case atStart => exact ⟨0, _, 0, Nat.zero_le _, rfl, rfl, P5, Below.refl _ _⟩
    case round =>
      obtain ⟨k, A3, c3, hk, rfl, rfl, P, hB⟩ := hrel
      have K := K5.laterB hB (by omega) (h.below (b5.trans (hB.mono (by omega)))) (g.below (b5.trans (hB.mono (by omega)))) (q.below (b5.trans (hB.mono (by omega))))
      by_cases hlt : k < ccc.length
      · have bw := b5.trans (hB.mono (by omega))
        obtain ⟨b, o, A', c', eB, _, hck0, hcc, hin0⟩ := g.at_ hlt
        cases eB
        have hck := cell_carry bw hck0
        have hxl := F.out.cl k hlt
        have hpl : k < ps.length := by rw [F.out.pl]; exact hlt
        obtain ⟨b2, o2, eC, _, hcp⟩ := q.at_ hpl
        cases eC
        have pk0 := hcp k hpl
        obtain ⟨f1, f2, f3⟩ := F.out.pb k hlt
        rw [f3] at pk0
        have hpn : pn ps k ≤ 3 := by omega
        have hlo : g4 ≤ wr.heap.size := by have := hB.size; omega
        have hsm : spO ps k ≤ 3 := by have h1 := spO_one ps hlt; have h2 := F.out.o3; omega
        obtain ⟨A1, c1, A2, c2, us, hul, hO⟩ := P
        rw [Nat.add_zero] at hO
        have s1_ := hO.cellAt (i := 0) rfl 1 (by simp)
        simp only [List.getElem?_cons_succ, List.getElem?_cons_zero] at s1_
        have HO := Lib.hid hO
        have HU0 := Lib.hid hul
        obtain ⟨wo, rfl⟩ : ∃ wo, wo = wr := ⟨_, rfl⟩
        clear hcp f1 f2 f3 hO K hul
        go_wp2_with (at_builtin; refine wpList_append_pI _ rfl _ _ rfl g4 3 k c3 A3 (offs ps k) _ rfl wo.heap.size (by simp) (HO.out.alloc _) rfl (spO ps k : Int) _ 1 rfl (new_cell _ _ _ rfl) (by omega) (by simp; omega) ?_)
        intro A6 c6 w6 ho6 hb6
        have hlo6 : g4 ≤ w6.heap.size := by have h1 := hb6.size; have h2 : (wo.alloc (.cells #[.int .i64 (spO ps k : Int)] 3)).heap.size = wo.heap.size + 1 := World.size_alloc _ _; omega
        have B56 := hB.trans (((Below.refl g4 wo).alloc hlo _).trans hb6)
        have bw6 := b5.trans (B56.mono (by omega))
        have K6 := K5.laterB B56 (by omega) (h.below bw6) (g.below bw6) (q.below bw6)
        have x2 := K6.s.c2
        have pk := cell_carry bw6 pk0
        have P6 : PhS g4 g4 ccc ps k 0 (.slice A6 (k + 1) c6) (offs ps (k + 1)) w6 := by
          refine ⟨A1, c1, A2, c2, us, HU0.out, ?_⟩
          rw [offs_succ]
          exact ho6
        clear ho6 hb6 HO HU0 s1_ hck hck0 hB bw K6
        go_wp2
        go_loopw [8] (fun n_ wr => ∃ j : Nat, j ≤ pn ps k ∧ n_ = .int .i64 ((pn ps k - j : Nat) : Int) ∧ PhS g4 g4 ccc ps k j (.slice A6 (k + 1) c6) (offs ps (k + 1)) wr ∧ Below g4 w5 wr) (fun n_ _ => (intOf n_).toNat)
        case atStart => exact ⟨0, Nat.zero_le _, rfl, P6, B56⟩
        case round =>
          clear P6 B56 x2 pk bw6
          obtain ⟨j, hj, rfl, P, hB⟩ := hrel
          by_cases hjl : j < pn ps k
          · obtain ⟨A1, c1, A2, c2, us, hul, hO⟩ := P
            obtain ⟨r, hr⟩ : ∃ r, pn ps k - j = r + 1 := ⟨pn ps k - j - 1, by omega⟩
            rw [hr]
            have HR := Lib.hid hr
            have hr3 : r ≤ 3 := by omega
            obtain ⟨T, hT⟩ : ∃ T, spO ps k + j = T := ⟨_, rfl⟩
            rw [hT] at hO
            have HT := Lib.hid hT
            have hsm2 : T ≤ 2 := by have h1 := spO_one ps hlt; have h2 := F.out.o3; omega
            have bw7 := b5.trans (hB.mono (by omega))
            have hin7 := hin0.below bw7
            have hin7' : IntsAt wr.drew A' (rx ccc k).length (rx ccc k) := hin7
            have hlo7 : g4 ≤ wr.heap.size := by have := hB.size; omega
            have hlo7' : g4 ≤ wr.drew.heap.size := hlo7
            have s1_ := hO.cellAt (i := 0) rfl 1 (by simp)
            simp only [List.getElem?_cons_succ, List.getElem?_cons_zero] at s1_
            have s1a := old_cell s1_ (.cells #[] 3)
            have sf1 := hO.frozenAt (i := 0) rfl 1
            have hin8 : IntsAt (wr.alloc (.cells #[] 3)).drew A' (rx ccc k).length (rx ccc k) := hin7.below ((Below.refl wr.heap.size wr).alloc (Nat.le_refl _) (.cells #[] 3)).drew
            have HO8 := Lib.hid (show OwnL (wr.alloc (.cells #[] 3)).drew g4 (wr.alloc (.cells #[] 3)).drew.heap.size _ from hO.addEmpty hlo7)
            have HU := Lib.hid hul
            have h7d : Below g4 wr (wr.alloc (.cells #[] 3)).drew := ((Below.refl g4 wr).alloc hlo7 _).drew
            have g1' : (0 : Int) ≤ ((r + 1 : Nat) : Int) := by omega
            have g2' : (0 : Int) < ((r + 1 : Nat) : Int) := by omega
            clear hT hO hr bw7 hin7 hul
            go_wp2
            go_region_law (first
              | (refine step_append_pR _ (by rfl) _ _ (by rfl) g4 2 T c1 A1 us _ (by rfl) w8.heap.size (by simp) (HO9.out.alloc _) (by rfl) (.slice A8 (rx ccc k).length c8) _ 1 (by rfl) (new_cell _ _ _ rfl) (by rfl) (by omega) (by simp; omega) ?_; intro A9 c9 w9 ho9 hb9; have s9_ := ho9.cellAt (i := 1) rfl 1 (by simp); have sf9 := ho9.frozenAt (i := 1) rfl 1; simp only [List.getElem?_cons_succ, List.getElem?_cons_zero] at s9_)
              | (refine step_append_pIs _ (by rfl) _ _ (by rfl) g4 0 0 0 (some ⟨wr.heap.size, 0, none⟩) [] _ (by rfl) _ (Nat.le_refl _) HO8.out (by rfl) A' (rx ccc k).length c' (rx ccc k) (by rfl) hin8 (by omega) (by simp; omega) ?_; intro A8 c8 w8 ho8 hb8; simp only [Nat.zero_add, List.nil_append] at ho8 ⊢; have hlo8 : g4 ≤ w8.heap.size := Nat.le_trans (by simp; omega) hb8.size; have s8_ := ho8.cellAt (i := 1) rfl 1 (by simp); simp only [List.getElem?_cons_succ, List.getElem?_cons_zero] at s8_; have s8a := old_cell s8_ (.cells #[.slice A8 (rx ccc k).length c8] 23); have HO9 := Lib.hid ho8))
            all_goals
              have hlo9 : g4 ≤ w9.heap.size := by have h1 := hb9.size; have h2 : (w8.alloc (.cells #[.slice A8 (rx ccc k).length c8] 23)).heap.size = w8.heap.size + 1 := World.size_alloc _ _; omega
              obtain ⟨O10, B10⟩ := ho9.storedB (i := 1) rfl hlo9 1 (.slice A9 (T + 1) c9)
              have B10' : Below g4 wr (w9.setCell ⟨g4, 1, none⟩ (.slice A9 (T + 1) c9)) := (((h7d.trans hb8).alloc hlo8 _).trans hb9).trans B10
              have O11 : OwnL (w9.setCell ⟨g4, 1, none⟩ (.slice A9 (T + 1) c9)) g4 (w9.setCell ⟨g4, 1, none⟩ (.slice A9 (T + 1) c9)).heap.size (pS 28 g4 [.slice none 0 0, .slice A9 (T + 1) c9, .slice A2 T c2] :: pR (.slice A9 (T + 1) c9) (us ++ [.slice A8 (rx ccc k).length c8]) :: pI (.slice A2 T c2) (List.replicate T 1) ::
                  pI (.slice A6 (k + 1) c6) (offs ps (k + 1)) :: rowsL (us ++ [.slice A8 (rx ccc k).length c8]) (colsTo ccc ps k (j + 1))) := by
                rw [colsTo_succ, rowsL_append HU.out]
                exact O10.perm perm3
              clear O10 B10 ho9 hb9 s9_ sf9 s8_ s8a HO9 hb8 hlo8 hlo9 s1_ s1a sf1 hin8 HO8 h7d hin7'
              have hlen9 : (us ++ [Value.slice A8 (rx ccc k).length c8]).length = (colsTo ccc ps k (j + 1)).length := by rw [colsTo_succ, List.length_append, List.length_append, HU.out]; rfl
              generalize w9.setCell ⟨g4, 1, none⟩ (.slice A9 (T + 1) c9) = w10 at *
              generalize us ++ [Value.slice A8 (rx ccc k).length c8] = us2 at *
              have hlo10 : g4 ≤ w10.heap.size := by have := B10'.size; omega
              have s10 := O11.cellAt (i := 0) rfl 2 (by simp)
              simp only [List.getElem?_cons_succ, List.getElem?_cons_zero] at s10
              have HL9 := Lib.hid hlen9
              have HO11 := Lib.hid O11
              clear hlen9 O11
              go_wp2_with (at_builtin; refine wpList_append_pI _ rfl _ _ rfl g4 2 T c2 A2 (List.replicate T 1) _ rfl w10.heap.size (by simp) (HO11.out.alloc _) rfl 1 _ 1 rfl (new_cell _ _ _ rfl) (by omega) (by simp; omega) ?_)
              intro A12 c12 w12 ho12 hb12
              have hlo12 : g4 ≤ w12.heap.size := by have h1 := hb12.size; have h2 : (w10.alloc (.cells #[.int .i64 1] 3)).heap.size = w10.heap.size + 1 := World.size_alloc _ _; omega
              have s12 := ho12.cellAt (i := 0) rfl 2 (by simp)
              have sf12 := ho12.frozenAt (i := 0) rfl 2
              simp only [List.getElem?_cons_succ, List.getElem?_cons_zero] at s12
              obtain ⟨O13, B13⟩ := ho12.storedB (i := 0) rfl hlo12 2 (.slice A12 (T + 1) c12)
              have HB13 := Lib.hid (hB.trans (((B10'.alloc hlo10 _).trans hb12).trans B13))
              have P13 : PhS g4 g4 ccc ps k (j + 1) (.slice A6 (k + 1) c6) (offs ps (k + 1)) (w12.setCell ⟨g4, 2, none⟩ (.slice A12 (T + 1) c12)) := by
                have eT : T + 1 = spO ps k + (j + 1) := by have := HT.out; omega
                refine ⟨A9, c9, A12, c12, us2, HL9.out, ?_⟩
                rw [← eT, show List.replicate (T + 1) (1 : Int) = List.replicate T 1 ++ [1] from by rw [List.replicate_succ']]
                exact O13
              have HP13 := Lib.hid P13
              have hrr : pn ps k - (j + 1) = r := by have := HR.out; omega
              have HRR := Lib.hid hrr
              clear ho12 hb12 O13 B13 P13 s10 B10' HO11 HL9 hrr
              go_wp2
              go_roundw
              case rel => exact ⟨j + 1, by omega, by rw [HRR.out], HP13.out, HB13.out⟩
              case measure => simp [intOf]
          · obtain rfl : j = pn ps k := by omega
            have P2 : PhS g4 g4 ccc ps (k + 1) 0 (.slice A6 (k + 1) c6) (offs ps (k + 1)) wr := by
              obtain ⟨A1, c1, A2, c2, us, h1, h3⟩ := P
              rw [colsTo_next] at h3
              rw [colsTo_next] at h1
              exact ⟨A1, c1, A2, c2, us, h1, h3⟩
            clear P
            rw [Nat.sub_self]
            go_wp2
            go_roundw
            case rel => exact ⟨k + 1, A6, c6, by omega, by go_num, rfl, P2, hB⟩
            case measure => simp [intOf]; omega
      · obtain rfl : k = ccc.length := by omega
        obtain ⟨A1, c1, A2, c2, us, hul, hO⟩ := P
        obtain ⟨T, hT⟩ : ∃ T, spO ps ccc.length + 0 = T := ⟨_, rfl⟩
        rw [hT] at hO
        have HT := Lib.hid (show spO ps ccc.length = T from hT)
        have hT3 : T ≤ 3 := by have := F.out.o3; omega
        have HUL := Lib.hid hul
        have x0 := K.s.c0
        have x2 := K.s.c2
        have Bw := hB
        have bw := b5.trans (hB.mono (by omega))
        have P0 : PhT g4 g4 T A1 c1 A2 c2 us (colsTo ccc ps ccc.length 0) (.slice A3 ccc.length c3) (offs ps ccc.length) none 0 0 [] (spS ps (sss.take 0)) wr := by
          have h1 := hO.addNew (p := pR (.slice none 0 0) []) (Below.refl _ _) (World.ownsRow_nil _ _ _ _) (by have := hB.size; omega) (fun k e => by cases (show (none : Option Nat) = some k from e))
          exact h1.perm (List.Perm.swap _ _ _)
        obtain ⟨wo, rfl⟩ : ∃ wo, wo = wr := ⟨_, rfl⟩
        have hsn := F.out.n5
        have hlo0 : g4 ≤ wo.heap.size := by have := hB.size; omega
        have KW := Lib.hid K5
        clear hul hO hT P5 K K5 x1 hB hlt hk
        generalize hcols : colsTo ccc ps ccc.length 0 = cols at *
        have HCO := Lib.hid hcols
        clear hcols
        have OFA := Lib.hid (fun i (hi : i < ccc.length) => offs_at (P := ps) hi)
        have OFL := Lib.hid (offs_len ps ccc.length)
        generalize offs ps ccc.length = fs at *
        go_wp2
        go_loopw [68] (fun i_ wr => ∃ (i : Nat) (AS : Option Addr) (cS : Nat) (hs : List Value), i ≤ sss.length ∧ i_ = .int .i64 i ∧ hs.length = (spS ps (sss.take i)).length ∧ PhT g4 g4 T A1 c1 A2 c2 us cols (.slice A3 ccc.length c3) fs AS i cS hs (spS ps (sss.take i)) wr ∧ Below g4 wo wr) (fun i_ _ => sss.length - (intOf i_).toNat)
        case atStart => exact ⟨0, none, 0, [], Nat.zero_le _, rfl, rfl, P0, Below.refl _ _⟩
        case round =>
          clear P0
          obtain ⟨i, AS, cS, hs, hi, rfl, hhl, P, hB⟩ := hrel
          have hlo1 : g4 ≤ wr.heap.size := by have := hB.size; omega
          by_cases hlt : i < sss.length
          · have bw1 := bw.trans (hB.mono (by omega))
            obtain ⟨b, o, A', c', eA, _, hck0, hcc, hin0⟩ := h.at_ hlt
            cases eA
            have hck := cell_carry bw1 hck0
            have hxl := F.out.sl i hlt
            have HSB := Lib.hid (F.out.sb i hlt)
            have HHL := Lib.hid hhl
            have P3 : PhU g4 g4 T A1 c1 A2 c2 us cols (.slice A3 ccc.length c3) fs AS i cS hs (spS ps (sss.take i)) (.slice (some ⟨wr.heap.size, 0, none⟩) 0 0) (spL ps ((rx sss i).take 0)) (wr.alloc (.cells #[] 3)) :=
              OwnL.addEmpty P hlo1
            have hb3 : Below g4 wr (wr.alloc (.cells #[] 3)) := (Below.refl _ _).alloc hlo1 _
            obtain ⟨w2, rfl⟩ : ∃ w2, w2 = wr := ⟨_, rfl⟩
            clear hhl P hck0
            go_wp2
            go_loopw [11, 75] (fun v_ j_ wr => ∃ (j : Nat) (AO : Option Addr) (cO : Nat), j ≤ (rx sss i).length ∧ j_ = .int .i64 j ∧ v_ = .slice AO (spL ps ((rx sss i).take j)).length cO ∧ PhU g4 g4 T A1 c1 A2 c2 us cols (.slice A3 ccc.length c3) fs AS i cS hs (spS ps (sss.take i)) v_ (spL ps ((rx sss i).take j)) wr ∧ Below g4 w2 wr) (fun _ j_ _ => (rx sss i).length - (intOf j_).toNat)
            case atStart => exact ⟨0, _, 0, Nat.zero_le _, rfl, rfl, P3, hb3⟩
            case round =>
              clear P3 hck hb3
              obtain ⟨j, AO, cO, hj, rfl, rfl, P, hB2⟩ := hrel
              by_cases hjl : j < (rx sss i).length
              · have bw2 := bw1.trans (hB2.mono (by omega))
                have hlo2 : g4 ≤ wr.heap.size := by have := hB2.size; omega
                obtain ⟨b3, o3, rfl, _, hc3⟩ := (hin0.below bw2).at_ hjl
                have hcj := hc3 j hjl
                obtain ⟨k1, k2⟩ := HSB.out j hjl
                have HTK := Lib.hid (spL_take (P := ps) hjl)
                obtain ⟨q_, hq_⟩ : ∃ q_ : Nat, ix (rx sss i) j = (q_ : Int) := ⟨(ix (rx sss i) j).toNat, by omega⟩
                rw [hq_] at hcj k1 k2
                have HQ := Lib.hid hq_
                have hqc : q_ < ccc.length := by omega
                have hyl : (spL ps ((rx sss i).take j)).length ≤ 9 := spL_len (c := ccc.length) (by simp; omega) (fun k hk => by
                  have hk2 : k < j := by simp at hk; omega
                  have := HSB.out k (by omega)
                  unfold ix at this ⊢
                  simp only [List.getD] at this ⊢
                  rw [List.getElem?_take_of_lt hk2]
                  exact this) F.out.o3
                have HTK2 : Hid (spL ps ((rx sss i).take (j + 1)) = spL ps ((rx sss i).take j) ++ partTo ps q_ (pn ps q_)) := by
                  show _ = _
                  rw [HTK.out, HQ.out]
                  rfl
                have hql : q_ < ps.length := by rw [F.out.pl]; exact hqc
                obtain ⟨b4_, o4_, eC, _, hcp⟩ := q.at_ hql
                cases eC
                have pk0 := hcp q_ hql
                obtain ⟨f1, f2, f3⟩ := F.out.pb q_ hqc
                rw [f3] at pk0
                have hpn : pn ps q_ ≤ 3 := by omega
                have hso : spO ps q_ ≤ 3 := by have h1 := spO_one ps hqc; have h2 := F.out.o3; omega
                clear hc3 hq_ HTK hcp f1 f2 f3
                generalize spL ps ((rx sss i).take j) = ys at *
                have k3 : (0 : Int) ≤ (q_ : Int) := by omega
                have k4 : (q_ : Int) < (ccc.length : Int) := by omega
                have k5 : (q_ : Int) < (ps.length : Int) := by omega
                have P4 : PhU g4 g4 T A1 c1 A2 c2 us cols (.slice A3 ccc.length c3) fs AS i cS hs (spS ps (sss.take i)) (.slice AO ys.length cO) (ys ++ partTo ps q_ 0) wr := by
                  rw [show ys ++ partTo ps q_ 0 = ys from by simp [partTo]]; exact P
                obtain ⟨w3, rfl⟩ : ∃ w3, w3 = wr := ⟨_, rfl⟩
                clear P
                go_wp2
                go_loopw [11, 14] (fun v_ n_ wr => ∃ (m : Nat) (AO : Option Addr) (cO : Nat), m ≤ pn ps q_ ∧ n_ = .int .i64 m ∧ v_ = .slice AO (ys.length + m) cO ∧ PhU g4 g4 T A1 c1 A2 c2 us cols (.slice A3 ccc.length c3) fs AS i cS hs (spS ps (sss.take i)) v_ (ys ++ partTo ps q_ m) wr ∧ Below g4 w3 wr) (fun _ n_ _ => pn ps q_ - (intOf n_).toNat)
                case atStart => exact ⟨0, AO, cO, Nat.zero_le _, rfl, rfl, P4, Below.refl _ _⟩
                case round =>
                  clear P4 hcj
                  obtain ⟨m, AP, cP, hm_, rfl, rfl, P, hB3⟩ := hrel
                  have hlo3 : g4 ≤ wr.heap.size := by have := hB3.size; omega
                  have bw3 := bw2.trans (hB3.mono (by omega))
                  have pk := cell_carry bw3 pk0
                  have KK := KW.out.laterB (Bw.trans (hB.trans (hB2.trans hB3))) (by omega) (h.below bw3) (g.below bw3) (q.below bw3)
                  have x2 := KK.s.c2
                  by_cases hml : m < pn ps q_
                  · have hof := P.1 _ (show pI (.slice A3 ccc.length c3) fs ∈ _ from by simp only [List.mem_cons, true_or, or_true])
                    have hofi := (pI_own hof.1 hof.2).at_
                    obtain ⟨b6, o6, e6, _, hc6⟩ := hofi.at_ hqc
                    have hcf := hc6 q_ hqc
                    rw [OFA.out q_ hqc] at hcf
                    subst e6
                    have HP := Lib.hid P
                    clear P hof hofi hc6 KK
                    go_wp2_with (at_builtin; refine wpList_append_pI _ rfl _ _ rfl g4 0 (ys.length + m) cP AP (ys ++ partTo ps q_ m) _ rfl wr.heap.size (by simp) (HP.out.alloc _) rfl ((spO ps q_ : Int) + (m : Int)) _ 1 rfl (new_cell _ _ _ rfl) (by omega) (by simp; omega) ?_)
                    intro A7 c7 w7 ho7 hb7
                    have HP7 : Hid (PhU g4 g4 T A1 c1 A2 c2 us cols (.slice (some ⟨b6, o6, none⟩) ccc.length c3) fs AS i cS hs (spS ps (sss.take i)) (.slice A7 (ys.length + (m + 1)) c7) (ys ++ partTo ps q_ (m + 1)) w7) := by
                      show PhU _ _ _ _ _ _ _ _ _ _ _ _ _ _ _ _ _ _ _
                      rw [partTo_succ, show ((spO ps q_ + m : Nat) : Int) = (spO ps q_ : Int) + (m : Int) from by omega]
                      exact ho7
                    have HB7 := Lib.hid (hB3.trans (((Below.refl g4 wr).alloc hlo3 _).trans hb7))
                    clear ho7 hb7 HP hcf pk x2
                    go_wp2
                    go_roundw
                    case rel => exact ⟨m + 1, A7, c7, by omega, by go_num, rfl, HP7.out, HB7.out⟩
                    case measure => simp [intOf]; omega
                  · obtain rfl : m = pn ps q_ := by omega
                    have HP7 : Hid (PhU g4 g4 T A1 c1 A2 c2 us cols (.slice A3 ccc.length c3) fs AS i cS hs (spS ps (sss.take i)) (.slice AP (ys.length + pn ps q_) cP) (spL ps ((rx sss i).take (j + 1))) wr) := by
                      show PhU _ _ _ _ _ _ _ _ _ _ _ _ _ _ _ _ _ _ _
                      rw [HTK2.out]; exact P
                    have HLL : Hid (ys.length + pn ps q_ = (spL ps ((rx sss i).take (j + 1))).length) := by show _ = _; rw [HTK2.out, List.length_append, partTo_len]
                    have HB7 := Lib.hid (hB2.trans hB3)
                    clear P hB2 hB3 KK
                    go_wp2
                    go_roundw
                    case rel => exact ⟨j + 1, AP, cP, by omega, by go_num, by rw [HLL.out], by rw [HLL.out]; rw [HLL.out] at HP7; exact HP7.out, HB7.out⟩
                    case measure => simp [intOf]; omega
              · obtain rfl : j = (rx sss i).length := by omega
                rw [List.take_length] at P ⊢
                have hlo2 : g4 ≤ wr.heap.size := by have := hB2.size; omega
                have hyl : (spL ps (rx sss i)).length ≤ 9 := spL_len (c := ccc.length) hxl HSB.out F.out.o3
                have HTS := Lib.hid (spS_take (P := ps) hlt)
                generalize spL ps (rx sss i) = ys at *
                have hhs : hs.length = i := by rw [HHL.out]; simp [spS]; omega
                have s0_ := P.cellAt (i := 1) rfl 0 (by simp)
                simp only [List.getElem?_cons_zero] at s0_
                have HP := Lib.hid P
                clear P hhs
                go_wp2_with (at_builtin; refine wpList_append_pR _ rfl _ _ rfl g4 2 i cS AS hs _ rfl wr.heap.size (by simp) (HP.out.alloc _) rfl (.slice AO ys.length cO) _ 1 rfl (new_cell _ _ _ rfl) rfl (by omega) (by simp; omega) ?_)
                intro A7 c7 w7 ho7 hb7
                have hlo7 : g4 ≤ w7.heap.size := by have h1 := hb7.size; have h2 : (wr.alloc (.cells #[.slice AO ys.length cO] 23)).heap.size = wr.heap.size + 1 := World.size_alloc _ _; omega
                have s7 := ho7.cellAt (i := 1) rfl 0 (by simp)
                have sf7 := ho7.frozenAt (i := 1) rfl 0
                simp only [List.getElem?_cons_zero] at s7
                obtain ⟨O8, B8⟩ := ho7.storedB (i := 1) rfl hlo7 0 (.slice A7 (i + 1) c7)
                have HB8 := Lib.hid (hB.trans ((((hB2.alloc hlo2 _)).trans hb7).trans B8))
                have HP8 : Hid (PhT g4 g4 T A1 c1 A2 c2 us cols (.slice A3 ccc.length c3) fs A7 (i + 1) c7 (hs ++ [.slice AO ys.length cO]) (spS ps (sss.take (i + 1))) (w7.setCell ⟨g4, 0, none⟩ (.slice A7 (i + 1) c7))) := by
                  show PhT _ _ _ _ _ _ _ _ _ _ _ _ _ _ _ _ _
                  rw [HTS.out]
                  unfold PhT
                  rw [rowsL_append (by rw [HHL.out])]
                  exact O8.perm perm5
                have HL8 : Hid ((hs ++ [Value.slice AO ys.length cO]).length = (spS ps (sss.take (i + 1))).length) := by show _ = _; rw [HTS.out, List.length_append, List.length_append, HHL.out]; rfl
                generalize hs ++ [Value.slice AO ys.length cO] = hs2 at *
                clear ho7 hb7 O8 B8 hB hB2 HP s0_
                go_wp2
                go_roundw
                case rel => exact ⟨i + 1, A7, c7, hs2, by omega, by go_num, HL8.out, HP8.out, HB8.out⟩
                case measure => simp [intOf]; omega
          · obtain rfl : i = sss.length := by omega
            rw [List.take_length] at P hhl
            have hhs : hs.length = sss.length := by rw [hhl]; simp [spS]
            have s0_ := P.cellAt (i := 0) rfl 0 (by simp)
            have s1_ := P.cellAt (i := 0) rfl 1 (by simp)
            have s2_ := P.cellAt (i := 0) rfl 2 (by simp)
            simp only [List.getElem?_cons_succ, List.getElem?_cons_zero] at s0_ s1_ s2_
            have bw3 := bw.trans (hB.mono (by omega))
            have K := KW.out.laterB (Bw.trans hB) (by omega) (h.below bw3) (g.below bw3) (q.below bw3)
            have q0 := K.y0
            have q1 := K.y1
            have q2 := K.y2
            have f0 := K.f 0
            have f1 := K.f 1
            have f2 := K.f 2
            have HP := Lib.hid P
            have HHL := Lib.hid hhl
            clear P KW hhl
            go_wp2
            obtain ⟨e0, e1, e2, b1, n1⟩ := K.fin (u := .slice AS sss.length cS) (v := .slice A1 T c1) (x := .slice A2 T c2) rfl
            have hcl : (spC ccc ps ccc.length).length = T := by rw [spC_len]; exact HT.out
            have hsl : (spS ps sss).length = sss.length := by simp [spS]
            have hpl : (List.replicate (spO ps ccc.length) (1 : Int)).length = T := by rw [List.length_replicate]; exact HT.out
            rw [hcl, hsl, hpl]
            refine bodyPost_ret (v := .tuple #[.agg #[.slice AS sss.length cS, .slice A1 T c1, .slice A2 T c2], .bool true]) (by simp [results, Try.results24, go_sem, e0, e1, e2]) rfl ⟨AS, cS, A1, c1, A2, c2, rfl, ?_, b1⟩
            have hco : cols = spC ccc ps ccc.length := by rw [← HCO.out]; unfold colsTo; simp
            refine ⟨hsl, hcl, hpl, hs, us, HHL.out, by rw [HUL.out, ← hco], ?_⟩
            have hO : OwnL wr g4 wr.heap.size (pR (.slice AS sss.length cS) hs :: pR (.slice A1 T c1) us :: pI (.slice A2 T c2) (List.replicate T 1) :: (rowsL hs (spS ps sss) ++ rowsL us cols)) := by
              refine HP.out.sub ?_
              exact List.Sublist.cons _ (List.Sublist.cons_cons _ (List.Sublist.cons_cons _ (List.Sublist.cons_cons _ (List.Sublist.cons _ (List.Sublist.refl _)))))
            rw [← hco, HT.out]
            exact (hO.only n1 (.inr (by omega))).mono (by omega) n1.size
end Go.Proofs.Ytmakbndlobaaaaa
