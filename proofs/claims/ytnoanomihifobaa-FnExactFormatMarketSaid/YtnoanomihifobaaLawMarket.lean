/- The exact laws' own helpers on markets: size, copy, comparison, marks. -/
import Derived.Test.YtnoanomihifobaaLawMarket0
namespace Go.Proofs.Ytnoanomihifobaa
set_option linter.unusedVariables false
open Go.RowKit

theorem market_open {H : Type} {enc : TypeId × Value → H} {W : World} {base : Nat} {v : Value} {d : DataW H} {p : List MemPlace}
    (hok : Value.okWide Try.prog W .any base 24 v) (h : DataW.Trod enc Try.prog W 0 (fun _ => true) true 24 v d p) :
    ∃ am nm cm zm aw nw cw zw, v = .agg #[.slice am nm cm, .slice aw nw cw] ∧ RowsAt W am nm zm ∧ (∀ xs ∈ zm, xs.length ≤ 9223372036854775807 ∧ ∀ x ∈ xs, (Lit.int .i64 x).wf = true) ∧ nm ≤ cm ∧ cm ≤ maxLen ∧
      RowsAt W aw nw zw ∧ (∀ xs ∈ zw, xs.length ≤ 9223372036854775807 ∧ ∀ x ∈ xs, (Lit.int .i64 x).wf = true) ∧ nw ≤ cw ∧ cw ≤ maxLen := by
  obtain ⟨v0, v1, y0, y1, n, rfl, _, _, h0, h1⟩ := Joins.open_agg2 Try.underlying24 (by kernel_rfl) (by kernel_rfl) hok h
  obtain ⟨am, nm, cm, zm, rfl, r0⟩ := rows_open_one h0
  obtain ⟨aw, nw, cw, zw, rfl, r1, r2, r3, r4⟩ := rows_open_one h1
  exact ⟨am, nm, cm, zm, aw, nw, cw, zw, rfl, r0.1, r0.2.1, r0.2.2.1, r0.2.2.2, r1, r2, r3, r4⟩

theorem szMarket_any (A : Option Addr) (n c : Nat) (xss : List (List Int)) (B : Option Addr) (m d : Nat) (yss : List (List Int)) (left : Int) (w : World) (h : RowsAt w A n xss) (hn : n ≤ 9223372036854775807) (hx : ∀ xs ∈ xss, xs.length ≤ 9223372036854775807)
    (g : RowsAt w B m yss) (hm : m ≤ 9223372036854775807) (hy : ∀ xs ∈ yss, xs.length ≤ 9223372036854775807) (h0 : 0 ≤ left) (h1 : left ≤ 1048576) :
    Calls Try.prog 6 #[.agg #[.slice A n c, .slice B m d], .int .i64 left] w fun e w' => ∃ r : Int, e = .returned (.int .i64 r) ∧
      (0 ≤ r → r ≤ left ∧ n ≤ 1048576 ∧ (∀ xs ∈ xss, xs.length ≤ 1048576) ∧ m ≤ 1048576 ∧ (∀ xs ∈ yss, xs.length ≤ 1048576)) ∧ r ≤ 1048576 ∧ Below w.heap.size w w' := by
  have HX := Lib.hid hx
  have HY := Lib.hid hy
  clear hx hy
  have hall := pair_below w (.slice A n c) (.slice B m d) 24
  have h2 := h.below hall
  have g2 := g.below hall
  go_enter Try.func6, Try.ntmps6
  go_wp2_with fail
  (with_reducible refine (szIntSS_any _ _ _ _ _ _ h2 hn HX.out h0 h1).mono ?_)
  rintro e w' ⟨r, rfl, hr, hq, rfl⟩
  by_cases hneg : r < 0
  · go_wp2
    go_ret
    exact ⟨_, rfl, fun h => by omega, by omega, hall⟩
  have hnn : 0 ≤ r := by omega
  obtain ⟨e1, e2, e3⟩ := hr hnn
  have E3 := Lib.hid e3
  clear hr hneg e3
  go_wp2_with fail
  (with_reducible refine (szIntSS_any _ _ _ _ _ _ g2 hm HY.out hnn hq).mono ?_)
  rintro e w' ⟨s, rfl, hs, hsq, rfl⟩
  by_cases hneg : s < 0
  · go_wp2
    go_ret
    exact ⟨_, rfl, fun h => by omega, by omega, hall⟩
  have hns : 0 ≤ s := by omega
  obtain ⟨e4, e5, e6⟩ := hs hns
  have E6 := Lib.hid e6
  clear hs hneg e6
  go_wp2
  go_ret
  exact ⟨_, rfl, fun _ => ⟨by omega, e2, E3.out, e5, E6.out⟩, hsq, hall⟩

set_option maxHeartbeats 800000 in
theorem toMarket_any (A : Option Addr) (n c : Nat) (xss : List (List Int)) (B : Option Addr) (m d : Nat) (yss : List (List Int)) (w : World) (h : RowsAt w A n xss) (hn : n ≤ 1048576) (hx : ∀ xs ∈ xss, xs.length ≤ 1048576)
    (g : RowsAt w B m yss) (hm : m ≤ 1048576) (hy : ∀ xs ∈ yss, xs.length ≤ 1048576) :
    Calls Try.prog 8 #[.agg #[.slice A n c, .slice B m d]] w fun e w' => ∃ A1 c1 B1 d1 mid, e = .returned (.agg #[.slice A1 n c1, .slice B1 m d1]) ∧
      OwnR w' w.heap.size mid (.slice A1 n c1) xss ∧ OwnR w' mid w'.heap.size (.slice B1 m d1) yss ∧ w.heap.size ≤ mid ∧ mid ≤ w'.heap.size ∧ Below w.heap.size w w' := by
  have HX := Lib.hid hx
  have HY := Lib.hid hy
  clear hx hy
  have a1 := pair_below w (.slice A n c) (.slice B m d) 24
  have a2 := a1.trans ((pair_below (w.alloc (.cells #[.slice A n c, .slice B m d] 24)) (.slice none 0 0) (.slice none 0 0) 27).mono (by simp))
  have a3 := a2.trans ((pair_below ((w.alloc (.cells #[.slice A n c, .slice B m d] 24)).alloc (.cells #[.slice none 0 0, .slice none 0 0] 27)) (.slice none 0 0) (.slice none 0 0) 27).mono (by simp; omega))
  have p1 := new_pair w (.slice A n c) (.slice B m d) 24 rfl
  have p2 := new_pair (w.alloc (.cells #[.slice A n c, .slice B m d] 24)) (.slice none 0 0) (.slice none 0 0) 27 (g := w.heap.size + 1) (by simp)
  have p3 := new_pair ((w.alloc (.cells #[.slice A n c, .slice B m d] 24)).alloc (.cells #[.slice none 0 0, .slice none 0 0] 27)) (.slice none 0 0) (.slice none 0 0) 27 (g := w.heap.size + 1 + 1) (by simp)
  have x1 := old_cell (old_cell p1.2 (.cells #[.slice none 0 0, .slice none 0 0] 27)) (.cells #[.slice none 0 0, .slice none 0 0] 27)
  have y0 := old_cell p2.1 (.cells #[.slice none 0 0, .slice none 0 0] 27)
  have y1 := old_cell p2.2 (.cells #[.slice none 0 0, .slice none 0 0] 27)
  have fy0 := old_free p2.1 (new_free (w.alloc (.cells #[.slice A n c, .slice B m d] 24)) _ 27 (by simp) 0) (.cells #[.slice none 0 0, .slice none 0 0] 27)
  have fy1 := old_free p2.2 (new_free (w.alloc (.cells #[.slice A n c, .slice B m d] 24)) _ 27 (by simp) 1) (.cells #[.slice none 0 0, .slice none 0 0] 27)
  have fz0 := new_free ((w.alloc (.cells #[.slice A n c, .slice B m d] 24)).alloc (.cells #[.slice none 0 0, .slice none 0 0] 27)) #[.slice none 0 0, .slice none 0 0] 27 (g := w.heap.size + 1 + 1) (by simp) 0
  have fz1 := new_free ((w.alloc (.cells #[.slice A n c, .slice B m d] 24)).alloc (.cells #[.slice none 0 0, .slice none 0 0] 27)) #[.slice none 0 0, .slice none 0 0] 27 (g := w.heap.size + 1 + 1) (by simp) 1
  have hs3 : (((w.alloc (.cells #[.slice A n c, .slice B m d] 24)).alloc (.cells #[.slice none 0 0, .slice none 0 0] 27)).alloc (.cells #[.slice none 0 0, .slice none 0 0] 27)).heap.size = w.heap.size + 3 := by simp
  have h3 := h.below a3
  have g3 := g.below a3
  clear a1 a2 p1 p2
  go_enter Try.func8, Try.ntmps8
  go_wp2_with fail
  (with_reducible refine (toIntSS_any _ _ _ _ _ h3 hn HX.out).mono ?_)
  rintro e w1 ⟨A1, c1, rfl, o1, b1⟩
  rw [hs3] at o1
  have x1 := cell_carry b1 x1
  have y0 := cell_carry b1 y0
  have y1 := cell_carry b1 y1
  have z0 := cell_carry b1 p3.1
  have z1 := cell_carry b1 p3.2
  rw [hs3] at b1
  have fy0 := (b1.frozen (p := ⟨w.heap.size + 1, 0, none⟩) (by simp)).trans fy0
  have fy1 := (b1.frozen (p := ⟨w.heap.size + 1, 1, none⟩) (by simp)).trans fy1
  have fz0 := (b1.frozen (p := ⟨w.heap.size + 1 + 1, 0, none⟩) (by simp)).trans fz0
  have fz1 := (b1.frozen (p := ⟨w.heap.size + 1 + 1, 1, none⟩) (by simp)).trans fz1
  have s1 := b1.size
  rw [hs3] at s1
  have b2 := a3.trans (b1.mono (Nat.le_add_right _ _))
  clear b1 a3 p3 hs3 h3 g3
  have q0 := World.cell?_setCell_same _ _ (Value.slice A1 n c1) z0
  have q1 := (World.cell?_setCell_other w1 ⟨w.heap.size + 1 + 1, 0, none⟩ ⟨w.heap.size + 1 + 1, 1, none⟩ (Value.slice A1 n c1) (by simp)).trans z1
  have v0 := (World.cell?_setCell_other w1 ⟨w.heap.size + 1 + 1, 0, none⟩ ⟨w.heap.size + 1, 0, none⟩ (Value.slice A1 n c1) (by simp)).trans y0
  have v1 := (World.cell?_setCell_other w1 ⟨w.heap.size + 1 + 1, 0, none⟩ ⟨w.heap.size + 1, 1, none⟩ (Value.slice A1 n c1) (by simp)).trans y1
  have o3 := o1.only (Only.setCell w1 (w.heap.size + 1 + 1) 0 none (.slice A1 n c1)) (by omega)
  have b3 := b2.setCell (p := ⟨w.heap.size + 1 + 1, 0, none⟩) (by simp; omega) (.slice A1 n c1)
  have g4 := g.below b3
  have hz : (w1.setCell ⟨w.heap.size + 1 + 1, 0, none⟩ (.slice A1 n c1)).heap.size = w1.heap.size := by simp [World.setCell]
  have hf : ∀ j k, w1.frozen? ⟨j, k, none⟩ = false → (w1.setCell ⟨w.heap.size + 1 + 1, 0, none⟩ (.slice A1 n c1)).frozen? ⟨j, k, none⟩ = false := fun j k h => by simpa using h
  have fv0 := hf _ _ fy0
  have fv1 := hf _ _ fy1
  have fq1 := hf _ _ fz1
  have K := Lib.hid (And.intro q0 (And.intro q1 (And.intro v0 v1)))
  have KF := Lib.hid (And.intro fv0 (And.intro fv1 fq1))
  clear q0 q1 v0 v1 hf fv0 fv1 fq1
  go_wp2_with fail
  (with_reducible refine (toIntSS_any _ _ _ _ _ g4 hm HY.out).mono ?_)
  rintro e w2 ⟨B1, d1, rfl, o2, b4⟩
  have s2 := b4.size
  have z0 := cell_carry b4 K.out.1
  have z1 := cell_carry b4 K.out.2.1
  have y0 := cell_carry b4 K.out.2.2.1
  have y1 := cell_carry b4 K.out.2.2.2
  rw [hz] at b4 s2
  rw [hz] at o2
  have fy0 := (b4.frozen (p := ⟨w.heap.size + 1, 0, none⟩) (by simp; omega)).trans KF.out.1
  have fy1 := (b4.frozen (p := ⟨w.heap.size + 1, 1, none⟩) (by simp; omega)).trans KF.out.2.1
  have fz1 := (b4.frozen (p := ⟨w.heap.size + 1 + 1, 1, none⟩) (by simp; omega)).trans KF.out.2.2
  have o4 := o3.below b4 (Nat.le_refl _)
  have b5 := b3.trans (b4.mono (by omega))
  have q0 := (World.cell?_setCell_other w2 ⟨w.heap.size + 1 + 1, 1, none⟩ ⟨w.heap.size + 1 + 1, 0, none⟩ (Value.slice B1 m d1) (by simp)).trans z0
  have q1 := World.cell?_setCell_same _ _ (Value.slice B1 m d1) z1
  have v0 := (World.cell?_setCell_other w2 ⟨w.heap.size + 1 + 1, 1, none⟩ ⟨w.heap.size + 1, 0, none⟩ (Value.slice B1 m d1) (by simp)).trans y0
  have v1 := (World.cell?_setCell_other w2 ⟨w.heap.size + 1 + 1, 1, none⟩ ⟨w.heap.size + 1, 1, none⟩ (Value.slice B1 m d1) (by simp)).trans y1
  have e2 := pair_set v0 v1 (.slice A1 n c1) (.slice B1 m d1)
  have E2 := Lib.hid e2
  have b6 := ((b5.setCell (p := ⟨w.heap.size + 1 + 1, 1, none⟩) (by simp; omega) (.slice B1 m d1)).setCell (p := ⟨w.heap.size + 1, 0, none⟩) (by simp) (.slice A1 n c1)).setCell (p := ⟨w.heap.size + 1, 1, none⟩) (by simp) (.slice B1 m d1)
  have n1 := Only.setCell w2 (w.heap.size + 1 + 1) 1 none (.slice B1 m d1)
  have n2 := Only.setCell (w2.setCell ⟨w.heap.size + 1 + 1, 1, none⟩ (.slice B1 m d1)) (w.heap.size + 1) 0 none (.slice A1 n c1)
  have n3 := Only.setCell ((w2.setCell ⟨w.heap.size + 1 + 1, 1, none⟩ (.slice B1 m d1)).setCell ⟨w.heap.size + 1, 0, none⟩ (.slice A1 n c1)) (w.heap.size + 1) 1 none (.slice B1 m d1)
  have o5 := ((o4.only n1 (by omega)).only n2 (by omega)).only n3 (by omega)
  have o6 := ((o2.only n1 (by omega)).only n2 (by omega)).only n3 (by omega)
  have B6 := Lib.hid b6
  have s6 := Nat.le_trans (Nat.le_trans n1.size n2.size) n3.size
  clear e2 v0 v1 n1 n2 n3 b5 b6 b3 b2 o1 o2 o3 o4 hz g4 x1
  go_wp2
  obtain ⟨e0, e1⟩ := E2.out
  exact bodyPost_ret (v := .agg #[.slice A1 n c1, .slice B1 m d1]) (by simp [results, Try.results8, go_sem, e0, e1]) rfl ⟨A1, c1, B1, d1, w1.heap.size, rfl, o5.mono (by omega) (Nat.le_refl _), o6.mono (Nat.le_refl _) s6, by omega, Nat.le_trans s2 s6, B6.out⟩

theorem eqMarket_eq (A A' : Option Addr) (n n' c c' : Nat) (xss : List (List Int)) (B B' : Option Addr) (m m' d d' : Nat) (yss : List (List Int)) (w : World) (h : RowsAt w A n xss) (h' : RowsAt w A' n' xss) (hn : n ≤ 1048576) (hx : ∀ xs ∈ xss, xs.length ≤ 1048576)
    (g : RowsAt w B m yss) (g' : RowsAt w B' m' yss) (hm : m ≤ 1048576) (hy : ∀ xs ∈ yss, xs.length ≤ 1048576) :
    Calls Try.prog 10 #[.agg #[.slice A n c, .slice B m d], .agg #[.slice A' n' c', .slice B' m' d']] w fun e w' => e = .returned (.bool true) ∧ Below w.heap.size w w' := by
  have HX := Lib.hid hx
  have HY := Lib.hid hy
  clear hx hy
  have a1 := pair_below w (.slice A n c) (.slice B m d) 27
  have a2 := a1.trans ((pair_below (w.alloc (.cells #[.slice A n c, .slice B m d] 27)) (.slice A' n' c') (.slice B' m' d') 27).mono (by simp))
  have h2 := h.below a2
  have g2 := g.below a2
  have h2' := h'.below a2
  have g2' := g'.below a2
  clear a1
  go_enter Try.func10, Try.ntmps10
  go_wp2_with fail
  (with_reducible refine (eqIntSS_eq _ _ _ _ _ _ _ _ h2 h2' hn HX.out).mono ?_)
  rintro e w1 ⟨rfl, k, rfl⟩
  go_wp2_with fail
  (with_reducible refine (eqIntSS_eq _ _ _ _ _ _ _ _ (g2.drewN k) (g2'.drewN k) hm HY.out).mono ?_)
  rintro e w1 ⟨rfl, k', rfl⟩
  go_wp2
  go_ret
  exact ⟨rfl, a2.trans (below_of_drewN rfl)⟩

set_option maxHeartbeats 400000 in
theorem markMarket_any (A : Option Addr) (n c lo hi : Nat) (xss : List (List Int)) (B : Option Addr) (m d lo2 hi2 : Nat) (yss : List (List Int)) (k0 : Int) (w : World) (h : OwnR w lo hi (.slice A n c) xss) (hn : n ≤ 1048576) (hx : ∀ xs ∈ xss, xs.length ≤ 1048576)
    (g : OwnR w lo2 hi2 (.slice B m d) yss) (hm : m ≤ 1048576) (hy : ∀ xs ∈ yss, xs.length ≤ 1048576) (hd1 : lo ≤ hi) (hd2 : hi ≤ lo2) (hd3 : lo2 ≤ hi2) (hd4 : hi2 ≤ w.heap.size) (h0 : 0 ≤ k0) (h1 : k0 ≤ 288230376151711744) :
    Calls Try.prog 14 #[.agg #[.slice A n c, .slice B m d], .int .i64 k0] w fun e w' => e = .returned (.int .i64 (endR (endR k0 xss) yss)) ∧
      OwnR w' lo hi (.slice A n c) (marksR k0 xss) ∧ OwnR w' lo2 hi2 (.slice B m d) (marksR (endR k0 xss) yss) ∧ Only lo hi2 w w' ∧ 0 ≤ endR (endR k0 xss) yss ∧ endR (endR k0 xss) yss ≤ k0 + 2199023255552 := by
  have HX := Lib.hid hx
  have HY := Lib.hid hy
  clear hx hy
  have a1 := pair_below w (.slice A n c) (.slice B m d) 27
  have p1 := new_pair w (.slice A n c) (.slice B m d) 27 rfl
  have h2 := h.belowW a1
  have g2 := g.belowW a1
  have n1 : Only lo hi2 w (w.alloc (.cells #[.slice A n c, .slice B m d] 27)) := Only.of_below a1 (Nat.le_refl _)
  go_enter Try.func14, Try.ntmps14
  go_wp2_with fail
  (with_reducible refine (markIntSS_any _ _ _ _ _ _ _ _ h2 hn HX.out h0 (by omega)).mono ?_)
  rintro e w1 ⟨rfl, o1, ho, ge, le⟩
  have x1 := ho.cell p1.2 (by simp; omega)
  have g3 := g2.only ho (by omega)
  have n2 := n1.trans (ho.mono (Nat.le_refl _) (by omega))
  clear ho n1 p1 a1 h2 g2
  go_wp2_with fail
  (with_reducible refine (markIntSS_any _ _ _ _ _ _ _ _ g3 hm HY.out ge (by omega)).mono ?_)
  rintro e w2 ⟨rfl, o2, ho, ge2, le2⟩
  have o3 := o1.only ho (by omega)
  have n3 := n2.trans (ho.mono (by omega) (Nat.le_refl _))
  clear ho n2 o1
  go_wp2
  go_ret
  exact ⟨rfl, o3, o2, n3, ge2, by omega⟩
end Go.Proofs.Ytnoanomihifobaa
