/- The exact laws' own helpers on schools: size, copy, comparison, marks. -/
import Derived.Test.YtmakbndlobaaaaaLawMarket0
namespace Go.Proofs.Ytmakbndlobaaaaa
set_option linter.unusedVariables false
open Go.RowKit

theorem school_open {H : Type} {enc : TypeId × Value → H} {W : World} {base : Nat} {v : Value} {d : DataW H} {p : List MemPlace}
    (hok : Value.okWide Try.prog W .any base 25 v) (h : DataW.Trod enc Try.prog W 0 (fun _ => true) true 25 v d p) :
    ∃ am nm cm zm aw nw cw zw ap np cp zp, v = .agg #[.slice am nm cm, .slice aw nw cw, .slice ap np cp] ∧ RowsAt W am nm zm ∧ (∀ xs ∈ zm, xs.length ≤ 9223372036854775807 ∧ ∀ x ∈ xs, (Lit.int .i64 x).wf = true) ∧ nm ≤ cm ∧ cm ≤ maxLen ∧
      RowsAt W aw nw zw ∧ (∀ xs ∈ zw, xs.length ≤ 9223372036854775807 ∧ ∀ x ∈ xs, (Lit.int .i64 x).wf = true) ∧ nw ≤ cw ∧ cw ≤ maxLen ∧
      IntsAt W ap np zp ∧ (∀ x ∈ zp, (Lit.int .i64 x).wf = true) ∧ np ≤ cp ∧ cp ≤ maxLen := by
  obtain ⟨v0, v1, v2, y0, y1, y2, n, rfl, _, _, h0, h1, h2⟩ := Joins.open_agg3 Try.underlying25 (by kernel_rfl) (by kernel_rfl) hok h
  obtain ⟨am, nm, cm, zm, rfl, r0⟩ := rows_open_one h0
  obtain ⟨aw, nw, cw, zw, rfl, r1⟩ := rows_open_one h1
  obtain ⟨ap, np, cp, zp, rfl, r2, r3, r4, r5⟩ := ints_open_one h2
  exact ⟨am, nm, cm, zm, aw, nw, cw, zw, ap, np, cp, zp, rfl, r0.1, r0.2.1, r0.2.2.1, r0.2.2.2, r1.1, r1.2.1, r1.2.2.1, r1.2.2.2, r2, r3, r4, r5⟩

theorem szSchool_any (A : Option Addr) (n c : Nat) (xss : List (List Int)) (B : Option Addr) (m d : Nat) (yss : List (List Int)) (C : Option Addr) (l e : Nat) (zs : List Int) (left : Int) (w : World) (h : RowsAt w A n xss) (hn : n ≤ 9223372036854775807) (hx : ∀ xs ∈ xss, xs.length ≤ 9223372036854775807)
    (g : RowsAt w B m yss) (hm : m ≤ 9223372036854775807) (hy : ∀ xs ∈ yss, xs.length ≤ 9223372036854775807) (q : IntsAt w C l zs) (hl : l ≤ 9223372036854775807) (h0 : 0 ≤ left) (h1 : left ≤ 1048576) :
    Calls Try.prog 8 #[.agg #[.slice A n c, .slice B m d, .slice C l e], .int .i64 left] w fun e w' => ∃ r : Int, e = .returned (.int .i64 r) ∧
      (0 ≤ r → r ≤ left ∧ n ≤ 1048576 ∧ (∀ xs ∈ xss, xs.length ≤ 1048576) ∧ m ≤ 1048576 ∧ (∀ xs ∈ yss, xs.length ≤ 1048576) ∧ l ≤ 1048576) ∧ r ≤ 1048576 ∧ Below w.heap.size w w' := by
  have HX := Lib.hid hx
  have HY := Lib.hid hy
  clear hx hy
  have hall := triple_below w (.slice A n c) (.slice B m d) (.slice C l e) 25
  have h2 := h.below hall
  have g2 := g.below hall
  go_enter Try.func8, Try.ntmps8
  go_wp2_with fail
  (with_reducible refine (szIntSS_any _ _ _ _ _ _ h2 hn HX.out h0 h1).mono ?_)
  rintro er w' ⟨r, rfl, hr, hq, rfl⟩
  by_cases hneg : r < 0
  · go_wp2
    go_ret
    exact ⟨_, rfl, fun h => by omega, by omega, hall⟩
  have hnn : 0 ≤ r := by omega
  obtain ⟨e1, e2, e3⟩ := hr hnn
  have E3 := Lib.hid e3
  clear hr hneg e3
  go_wp2_with fail
  (with_reducible refine (szIntSS_any _ _ _ _ _ _ g2 hm HY.out hnn hq).mono ?_)
  rintro er w' ⟨s, rfl, hs, hsq, rfl⟩
  by_cases hneg : s < 0
  · go_wp2
    go_ret
    exact ⟨_, rfl, fun h => by omega, by omega, hall⟩
  have hns : 0 ≤ s := by omega
  obtain ⟨e4, e5, e6⟩ := hs hns
  have E6 := Lib.hid e6
  clear hs hneg e6
  go_wp2_with fail
  (with_reducible refine (szIntS_any _ _ _ _ _ hl hns hsq).mono ?_)
  rintro er w' ⟨t, rfl, ht, htq, rfl⟩
  by_cases hneg : t < 0
  · go_wp2
    go_ret
    exact ⟨_, rfl, fun h => by omega, by omega, hall⟩
  have hnt : 0 ≤ t := by omega
  obtain ⟨e7, e8⟩ := ht hnt
  clear ht hneg
  go_wp2
  go_ret
  exact ⟨_, rfl, fun _ => ⟨by omega, e2, E3.out, e5, E6.out, e8⟩, htq, hall⟩

theorem triple_set {w : World} {g : Nat} {x0 x1 x2 : Value} (h0 : w.cell? ⟨g, 0, none⟩ = some x0) (h1 : w.cell? ⟨g, 1, none⟩ = some x1) (h2 : w.cell? ⟨g, 2, none⟩ = some x2) (u v x : Value) :
    (((w.setCell ⟨g, 0, none⟩ u).setCell ⟨g, 1, none⟩ v).setCell ⟨g, 2, none⟩ x).cell? ⟨g, 0, none⟩ = some u ∧ (((w.setCell ⟨g, 0, none⟩ u).setCell ⟨g, 1, none⟩ v).setCell ⟨g, 2, none⟩ x).cell? ⟨g, 1, none⟩ = some v ∧
      (((w.setCell ⟨g, 0, none⟩ u).setCell ⟨g, 1, none⟩ v).setCell ⟨g, 2, none⟩ x).cell? ⟨g, 2, none⟩ = some x := by
  obtain ⟨e0, e1⟩ := pair_set h0 h1 u v
  refine ⟨?_, ?_, ?_⟩
  · rw [World.cell?_setCell_other _ _ _ _ (by simp)]; exact e0
  · rw [World.cell?_setCell_other _ _ _ _ (by simp)]; exact e1
  · exact World.cell?_setCell_same _ _ _ ((World.cell?_setCell_other _ _ _ _ (by simp)).trans ((World.cell?_setCell_other _ _ _ _ (by simp)).trans h2))
set_option maxHeartbeats 2000000 in
theorem toSchool_any (A : Option Addr) (n c : Nat) (xss : List (List Int)) (B : Option Addr) (m d : Nat) (yss : List (List Int)) (C : Option Addr) (l e : Nat) (zs : List Int) (w : World) (h : RowsAt w A n xss) (hn : n ≤ 1048576) (hx : ∀ xs ∈ xss, xs.length ≤ 1048576)
    (g : RowsAt w B m yss) (hm : m ≤ 1048576) (hy : ∀ xs ∈ yss, xs.length ≤ 1048576) (q : IntsAt w C l zs) (hl : l ≤ 1048576) :
    Calls Try.prog 10 #[.agg #[.slice A n c, .slice B m d, .slice C l e]] w fun e w' => ∃ A1 c1 B1 d1 C1 e1 mid mie, e = .returned (.agg #[.slice A1 n c1, .slice B1 m d1, .slice C1 l e1]) ∧
      OwnR w' w.heap.size mid (.slice A1 n c1) xss ∧ OwnR w' mid mie (.slice B1 m d1) yss ∧ OwnI w' mie w'.heap.size (.slice C1 l e1) zs ∧ w.heap.size ≤ mid ∧ mid ≤ mie ∧ mie ≤ w'.heap.size ∧ Below w.heap.size w w' := by
  have HX := Lib.hid hx
  have HY := Lib.hid hy
  clear hx hy
  have a1 := triple_below w (.slice A n c) (.slice B m d) (.slice C l e) 25
  have a2 := a1.trans ((triple_below (w.alloc (.cells #[.slice A n c, .slice B m d, .slice C l e] 25)) (.slice none 0 0) (.slice none 0 0) (.slice none 0 0) 28).mono (by simp))
  have a3 := a2.trans ((triple_below ((w.alloc (.cells #[.slice A n c, .slice B m d, .slice C l e] 25)).alloc (.cells #[.slice none 0 0, .slice none 0 0, .slice none 0 0] 28)) (.slice none 0 0) (.slice none 0 0) (.slice none 0 0) 28).mono (by simp; omega))
  have p1 := new_triple w (.slice A n c) (.slice B m d) (.slice C l e) 25 rfl
  have p2 := new_triple (w.alloc (.cells #[.slice A n c, .slice B m d, .slice C l e] 25)) (.slice none 0 0) (.slice none 0 0) (.slice none 0 0) 28 (g := w.heap.size + 1) (by simp)
  have p3 := new_triple ((w.alloc (.cells #[.slice A n c, .slice B m d, .slice C l e] 25)).alloc (.cells #[.slice none 0 0, .slice none 0 0, .slice none 0 0] 28)) (.slice none 0 0) (.slice none 0 0) (.slice none 0 0) 28 (g := w.heap.size + 1 + 1) (by simp)
  have f2 : ∀ j, ((w.alloc (.cells #[.slice A n c, .slice B m d, .slice C l e] 25)).alloc (.cells #[.slice none 0 0, .slice none 0 0, .slice none 0 0] 28)).frozen? ⟨w.heap.size + 1, j, none⟩ = false := fun j => new_free (w.alloc (.cells #[.slice A n c, .slice B m d, .slice C l e] 25)) _ 28 (by simp) j
  have f3 : ∀ j, (((w.alloc (.cells #[.slice A n c, .slice B m d, .slice C l e] 25)).alloc (.cells #[.slice none 0 0, .slice none 0 0, .slice none 0 0] 28)).alloc (.cells #[.slice none 0 0, .slice none 0 0, .slice none 0 0] 28)).frozen? ⟨w.heap.size + 1 + 1, j, none⟩ = false := fun j => new_free ((w.alloc (.cells #[.slice A n c, .slice B m d, .slice C l e] 25)).alloc (.cells #[.slice none 0 0, .slice none 0 0, .slice none 0 0] 28)) _ 28 (by simp) j
  have hs3 : (((w.alloc (.cells #[.slice A n c, .slice B m d, .slice C l e] 25)).alloc (.cells #[.slice none 0 0, .slice none 0 0, .slice none 0 0] 28)).alloc (.cells #[.slice none 0 0, .slice none 0 0, .slice none 0 0] 28)).heap.size = w.heap.size + 3 := by simp
  have F2 := Lib.hid f2
  have F3 := Lib.hid f3
  have K : Hid (((((w.alloc (.cells #[.slice A n c, .slice B m d, .slice C l e] 25)).alloc (.cells #[.slice none 0 0, .slice none 0 0, .slice none 0 0] 28)).alloc (.cells #[.slice none 0 0, .slice none 0 0, .slice none 0 0] 28)).cell? ⟨w.heap.size, 1, none⟩ = some (.slice B m d) ∧ (((w.alloc (.cells #[.slice A n c, .slice B m d, .slice C l e] 25)).alloc (.cells #[.slice none 0 0, .slice none 0 0, .slice none 0 0] 28)).alloc (.cells #[.slice none 0 0, .slice none 0 0, .slice none 0 0] 28)).cell? ⟨w.heap.size, 2, none⟩ = some (.slice C l e)) ∧
      ((((w.alloc (.cells #[.slice A n c, .slice B m d, .slice C l e] 25)).alloc (.cells #[.slice none 0 0, .slice none 0 0, .slice none 0 0] 28)).alloc (.cells #[.slice none 0 0, .slice none 0 0, .slice none 0 0] 28)).cell? ⟨w.heap.size + 1, 0, none⟩ = some (.slice none 0 0) ∧ (((w.alloc (.cells #[.slice A n c, .slice B m d, .slice C l e] 25)).alloc (.cells #[.slice none 0 0, .slice none 0 0, .slice none 0 0] 28)).alloc (.cells #[.slice none 0 0, .slice none 0 0, .slice none 0 0] 28)).cell? ⟨w.heap.size + 1, 1, none⟩ = some (.slice none 0 0) ∧ (((w.alloc (.cells #[.slice A n c, .slice B m d, .slice C l e] 25)).alloc (.cells #[.slice none 0 0, .slice none 0 0, .slice none 0 0] 28)).alloc (.cells #[.slice none 0 0, .slice none 0 0, .slice none 0 0] 28)).cell? ⟨w.heap.size + 1, 2, none⟩ = some (.slice none 0 0)) ∧
      ((((w.alloc (.cells #[.slice A n c, .slice B m d, .slice C l e] 25)).alloc (.cells #[.slice none 0 0, .slice none 0 0, .slice none 0 0] 28)).alloc (.cells #[.slice none 0 0, .slice none 0 0, .slice none 0 0] 28)).cell? ⟨w.heap.size + 1 + 1, 0, none⟩ = some (.slice none 0 0) ∧ (((w.alloc (.cells #[.slice A n c, .slice B m d, .slice C l e] 25)).alloc (.cells #[.slice none 0 0, .slice none 0 0, .slice none 0 0] 28)).alloc (.cells #[.slice none 0 0, .slice none 0 0, .slice none 0 0] 28)).cell? ⟨w.heap.size + 1 + 1, 1, none⟩ = some (.slice none 0 0) ∧ (((w.alloc (.cells #[.slice A n c, .slice B m d, .slice C l e] 25)).alloc (.cells #[.slice none 0 0, .slice none 0 0, .slice none 0 0] 28)).alloc (.cells #[.slice none 0 0, .slice none 0 0, .slice none 0 0] 28)).cell? ⟨w.heap.size + 1 + 1, 2, none⟩ = some (.slice none 0 0)) ∧
      ((∀ j, j < 3 → (((w.alloc (.cells #[.slice A n c, .slice B m d, .slice C l e] 25)).alloc (.cells #[.slice none 0 0, .slice none 0 0, .slice none 0 0] 28)).alloc (.cells #[.slice none 0 0, .slice none 0 0, .slice none 0 0] 28)).frozen? ⟨w.heap.size + 1, j, none⟩ = false) ∧ ∀ j, (((w.alloc (.cells #[.slice A n c, .slice B m d, .slice C l e] 25)).alloc (.cells #[.slice none 0 0, .slice none 0 0, .slice none 0 0] 28)).alloc (.cells #[.slice none 0 0, .slice none 0 0, .slice none 0 0] 28)).frozen? ⟨w.heap.size + 1 + 1, j, none⟩ = false)) := by
    refine ⟨⟨old_cell (old_cell p1.2.1 _) _, old_cell (old_cell p1.2.2 _) _⟩, ⟨old_cell p2.1 _, old_cell p2.2.1 _, old_cell p2.2.2 _⟩, p3, fun j hj => ?_, F3.out⟩
    match j, hj with
    | 0, _ => exact old_free p2.1 (F2.out 0) _
    | 1, _ => exact old_free p2.2.1 (F2.out 1) _
    | 2, _ => exact old_free p2.2.2 (F2.out 2) _
  clear f2 f3 F2 F3 p1 p2 p3 a1 a2
  have h3 := h.below a3
  have g3 := g.below a3
  have q3 := q.below a3
  go_enter Try.func10, Try.ntmps10
  go_wp2_with fail
  (with_reducible refine (toIntSS_any _ _ _ _ _ h3 hn HX.out).mono ?_)
  generalize (((w.alloc (.cells #[.slice A n c, .slice B m d, .slice C l e] 25)).alloc (.cells #[.slice none 0 0, .slice none 0 0, .slice none 0 0] 28)).alloc (.cells #[.slice none 0 0, .slice none 0 0, .slice none 0 0] 28)) = V at *
  rintro er w1 ⟨A1, c1, rfl, o1, b1⟩
  obtain ⟨⟨x1, x2⟩, ⟨y0, y1, y2⟩, ⟨z0, z1, z2⟩, fy, fz⟩ := K.out
  have s1 := b1.size
  have h3' : w.heap.size + 3 ≤ V.heap.size := by omega
  have fz0 := (b1.frozen (p := ⟨w.heap.size + 1 + 1, 0, none⟩) (by simp; omega)).trans (fz 0)
  have fz1 := (b1.frozen (p := ⟨w.heap.size + 1 + 1, 1, none⟩) (by simp; omega)).trans (fz 1)
  have fz2 := (b1.frozen (p := ⟨w.heap.size + 1 + 1, 2, none⟩) (by simp; omega)).trans (fz 2)
  have fy0 := (b1.frozen (p := ⟨w.heap.size + 1, 0, none⟩) (by simp; omega)).trans (fy 0 (by omega))
  have fy1 := (b1.frozen (p := ⟨w.heap.size + 1, 1, none⟩) (by simp; omega)).trans (fy 1 (by omega))
  have fy2 := (b1.frozen (p := ⟨w.heap.size + 1, 2, none⟩) (by simp; omega)).trans (fy 2 (by omega))
  replace x1 := cell_carry b1 x1
  replace x2 := cell_carry b1 x2
  replace y0 := cell_carry b1 y0
  replace y1 := cell_carry b1 y1
  replace y2 := cell_carry b1 y2
  replace z0 := cell_carry b1 z0
  replace z1 := cell_carry b1 z1
  replace z2 := cell_carry b1 z2
  have b2 := a3.trans (b1.mono (by omega))
  clear b1 h3 g3 q3 hs3 K fy fz
  go_wp2_with fail
  replace x1 := (World.cell?_setCell_other w1 ⟨w.heap.size + 1 + 1, 0, none⟩ ⟨w.heap.size, 1, none⟩ (Value.slice A1 n c1) (by simp)).trans x1
  replace x2 := (World.cell?_setCell_other w1 ⟨w.heap.size + 1 + 1, 0, none⟩ ⟨w.heap.size, 2, none⟩ (Value.slice A1 n c1) (by simp)).trans x2
  replace y0 := (World.cell?_setCell_other w1 ⟨w.heap.size + 1 + 1, 0, none⟩ ⟨w.heap.size + 1, 0, none⟩ (Value.slice A1 n c1) (by simp)).trans y0
  replace y1 := (World.cell?_setCell_other w1 ⟨w.heap.size + 1 + 1, 0, none⟩ ⟨w.heap.size + 1, 1, none⟩ (Value.slice A1 n c1) (by simp)).trans y1
  replace y2 := (World.cell?_setCell_other w1 ⟨w.heap.size + 1 + 1, 0, none⟩ ⟨w.heap.size + 1, 2, none⟩ (Value.slice A1 n c1) (by simp)).trans y2
  replace z0 := World.cell?_setCell_same _ _ (Value.slice A1 n c1) z0
  replace z1 := (World.cell?_setCell_other w1 ⟨w.heap.size + 1 + 1, 0, none⟩ ⟨w.heap.size + 1 + 1, 1, none⟩ (Value.slice A1 n c1) (by simp)).trans z1
  replace z2 := (World.cell?_setCell_other w1 ⟨w.heap.size + 1 + 1, 0, none⟩ ⟨w.heap.size + 1 + 1, 2, none⟩ (Value.slice A1 n c1) (by simp)).trans z2
  replace fy0 : (w1.setCell ⟨w.heap.size + 1 + 1, 0, none⟩ (Value.slice A1 n c1)).frozen? ⟨w.heap.size + 1, 0, none⟩ = false := by simpa using fy0
  replace fy1 : (w1.setCell ⟨w.heap.size + 1 + 1, 0, none⟩ (Value.slice A1 n c1)).frozen? ⟨w.heap.size + 1, 1, none⟩ = false := by simpa using fy1
  replace fy2 : (w1.setCell ⟨w.heap.size + 1 + 1, 0, none⟩ (Value.slice A1 n c1)).frozen? ⟨w.heap.size + 1, 2, none⟩ = false := by simpa using fy2
  replace fz0 : (w1.setCell ⟨w.heap.size + 1 + 1, 0, none⟩ (Value.slice A1 n c1)).frozen? ⟨w.heap.size + 1 + 1, 0, none⟩ = false := by simpa using fz0
  replace fz1 : (w1.setCell ⟨w.heap.size + 1 + 1, 0, none⟩ (Value.slice A1 n c1)).frozen? ⟨w.heap.size + 1 + 1, 1, none⟩ = false := by simpa using fz1
  replace fz2 : (w1.setCell ⟨w.heap.size + 1 + 1, 0, none⟩ (Value.slice A1 n c1)).frozen? ⟨w.heap.size + 1 + 1, 2, none⟩ = false := by simpa using fz2
  replace o1 := o1.only (Only.setCell w1 (w.heap.size + 1 + 1) 0 none (Value.slice A1 n c1)) (by omega)
  replace b2 := b2.setCell (p := ⟨w.heap.size + 1 + 1, 0, none⟩) (by simp; omega) (Value.slice A1 n c1)
  have hz0 : (w1.setCell ⟨w.heap.size + 1 + 1, 0, none⟩ (Value.slice A1 n c1)).heap.size = w1.heap.size := by simp [World.setCell]
  have g4 := g.below b2
  generalize (w1.setCell ⟨w.heap.size + 1 + 1, 0, none⟩ (Value.slice A1 n c1)) = v1 at *
  have hv1 : w1.heap.size ≤ v1.heap.size := by omega
  have hv2 : v1.heap.size ≤ w1.heap.size := by omega
  clear hz0
  go_wp2_with fail
  (with_reducible refine (toIntSS_any _ _ _ _ _ g4 hm HY.out).mono ?_)
  rintro er w2 ⟨B1, d1, rfl, o2, b3⟩
  have s2 := b3.size
  replace x1 := cell_carry b3 x1
  replace x2 := cell_carry b3 x2
  replace y0 := cell_carry b3 y0
  replace y1 := cell_carry b3 y1
  replace y2 := cell_carry b3 y2
  replace z0 := cell_carry b3 z0
  replace z1 := cell_carry b3 z1
  replace z2 := cell_carry b3 z2
  replace fy0 := (b3.frozen (p := ⟨w.heap.size + 1, 0, none⟩) (by simp; omega)).trans fy0
  replace fy1 := (b3.frozen (p := ⟨w.heap.size + 1, 1, none⟩) (by simp; omega)).trans fy1
  replace fy2 := (b3.frozen (p := ⟨w.heap.size + 1, 2, none⟩) (by simp; omega)).trans fy2
  replace fz0 := (b3.frozen (p := ⟨w.heap.size + 1 + 1, 0, none⟩) (by simp; omega)).trans fz0
  replace fz1 := (b3.frozen (p := ⟨w.heap.size + 1 + 1, 1, none⟩) (by simp; omega)).trans fz1
  replace fz2 := (b3.frozen (p := ⟨w.heap.size + 1 + 1, 2, none⟩) (by simp; omega)).trans fz2
  replace o1 := o1.belowW b3
  replace b2 := b2.trans (b3.mono (by omega))
  clear b3 g4
  go_wp2_with fail
  replace x1 := (World.cell?_setCell_other w2 ⟨w.heap.size + 1 + 1, 1, none⟩ ⟨w.heap.size, 1, none⟩ (Value.slice B1 m d1) (by simp)).trans x1
  replace x2 := (World.cell?_setCell_other w2 ⟨w.heap.size + 1 + 1, 1, none⟩ ⟨w.heap.size, 2, none⟩ (Value.slice B1 m d1) (by simp)).trans x2
  replace y0 := (World.cell?_setCell_other w2 ⟨w.heap.size + 1 + 1, 1, none⟩ ⟨w.heap.size + 1, 0, none⟩ (Value.slice B1 m d1) (by simp)).trans y0
  replace y1 := (World.cell?_setCell_other w2 ⟨w.heap.size + 1 + 1, 1, none⟩ ⟨w.heap.size + 1, 1, none⟩ (Value.slice B1 m d1) (by simp)).trans y1
  replace y2 := (World.cell?_setCell_other w2 ⟨w.heap.size + 1 + 1, 1, none⟩ ⟨w.heap.size + 1, 2, none⟩ (Value.slice B1 m d1) (by simp)).trans y2
  replace z0 := (World.cell?_setCell_other w2 ⟨w.heap.size + 1 + 1, 1, none⟩ ⟨w.heap.size + 1 + 1, 0, none⟩ (Value.slice B1 m d1) (by simp)).trans z0
  replace z1 := World.cell?_setCell_same _ _ (Value.slice B1 m d1) z1
  replace z2 := (World.cell?_setCell_other w2 ⟨w.heap.size + 1 + 1, 1, none⟩ ⟨w.heap.size + 1 + 1, 2, none⟩ (Value.slice B1 m d1) (by simp)).trans z2
  replace fy0 : (w2.setCell ⟨w.heap.size + 1 + 1, 1, none⟩ (Value.slice B1 m d1)).frozen? ⟨w.heap.size + 1, 0, none⟩ = false := by simpa using fy0
  replace fy1 : (w2.setCell ⟨w.heap.size + 1 + 1, 1, none⟩ (Value.slice B1 m d1)).frozen? ⟨w.heap.size + 1, 1, none⟩ = false := by simpa using fy1
  replace fy2 : (w2.setCell ⟨w.heap.size + 1 + 1, 1, none⟩ (Value.slice B1 m d1)).frozen? ⟨w.heap.size + 1, 2, none⟩ = false := by simpa using fy2
  replace fz0 : (w2.setCell ⟨w.heap.size + 1 + 1, 1, none⟩ (Value.slice B1 m d1)).frozen? ⟨w.heap.size + 1 + 1, 0, none⟩ = false := by simpa using fz0
  replace fz1 : (w2.setCell ⟨w.heap.size + 1 + 1, 1, none⟩ (Value.slice B1 m d1)).frozen? ⟨w.heap.size + 1 + 1, 1, none⟩ = false := by simpa using fz1
  replace fz2 : (w2.setCell ⟨w.heap.size + 1 + 1, 1, none⟩ (Value.slice B1 m d1)).frozen? ⟨w.heap.size + 1 + 1, 2, none⟩ = false := by simpa using fz2
  replace o1 := o1.only (Only.setCell w2 (w.heap.size + 1 + 1) 1 none (Value.slice B1 m d1)) (by omega)
  replace o2 := o2.only (Only.setCell w2 (w.heap.size + 1 + 1) 1 none (Value.slice B1 m d1)) (by omega)
  replace b2 := b2.setCell (p := ⟨w.heap.size + 1 + 1, 1, none⟩) (by simp; omega) (Value.slice B1 m d1)
  have hz1 : (w2.setCell ⟨w.heap.size + 1 + 1, 1, none⟩ (Value.slice B1 m d1)).heap.size = w2.heap.size := by simp [World.setCell]
  have q4 := q.below b2
  generalize (w2.setCell ⟨w.heap.size + 1 + 1, 1, none⟩ (Value.slice B1 m d1)) = v2 at *
  have hv3 : w2.heap.size ≤ v2.heap.size := by omega
  have hv4 : v2.heap.size ≤ w2.heap.size := by omega
  clear hz1
  (with_reducible refine (toIntS_any _ _ _ _ _ q4 hl).mono ?_)
  rintro er w3 ⟨C1, e1, rfl, o3, b3⟩
  have s3 := b3.size
  replace x1 := cell_carry b3 x1
  replace x2 := cell_carry b3 x2
  replace y0 := cell_carry b3 y0
  replace y1 := cell_carry b3 y1
  replace y2 := cell_carry b3 y2
  replace z0 := cell_carry b3 z0
  replace z1 := cell_carry b3 z1
  replace z2 := cell_carry b3 z2
  replace fy0 := (b3.frozen (p := ⟨w.heap.size + 1, 0, none⟩) (by simp; omega)).trans fy0
  replace fy1 := (b3.frozen (p := ⟨w.heap.size + 1, 1, none⟩) (by simp; omega)).trans fy1
  replace fy2 := (b3.frozen (p := ⟨w.heap.size + 1, 2, none⟩) (by simp; omega)).trans fy2
  replace fz0 := (b3.frozen (p := ⟨w.heap.size + 1 + 1, 0, none⟩) (by simp; omega)).trans fz0
  replace fz1 := (b3.frozen (p := ⟨w.heap.size + 1 + 1, 1, none⟩) (by simp; omega)).trans fz1
  replace fz2 := (b3.frozen (p := ⟨w.heap.size + 1 + 1, 2, none⟩) (by simp; omega)).trans fz2
  replace o1 := o1.belowW b3
  replace o2 := o2.belowW b3
  replace b2 := b2.trans (b3.mono (by omega))
  clear b3 q4
  have n_x1 := (World.cell?_setCell_other w3 ⟨w.heap.size + 1 + 1, 2, none⟩ ⟨w.heap.size, 1, none⟩ (Value.slice C1 l e1) (by simp)).trans x1
  have n_x2 := (World.cell?_setCell_other w3 ⟨w.heap.size + 1 + 1, 2, none⟩ ⟨w.heap.size, 2, none⟩ (Value.slice C1 l e1) (by simp)).trans x2
  have n_y0 := (World.cell?_setCell_other w3 ⟨w.heap.size + 1 + 1, 2, none⟩ ⟨w.heap.size + 1, 0, none⟩ (Value.slice C1 l e1) (by simp)).trans y0
  have n_y1 := (World.cell?_setCell_other w3 ⟨w.heap.size + 1 + 1, 2, none⟩ ⟨w.heap.size + 1, 1, none⟩ (Value.slice C1 l e1) (by simp)).trans y1
  have n_y2 := (World.cell?_setCell_other w3 ⟨w.heap.size + 1 + 1, 2, none⟩ ⟨w.heap.size + 1, 2, none⟩ (Value.slice C1 l e1) (by simp)).trans y2
  have n_z0 := (World.cell?_setCell_other w3 ⟨w.heap.size + 1 + 1, 2, none⟩ ⟨w.heap.size + 1 + 1, 0, none⟩ (Value.slice C1 l e1) (by simp)).trans z0
  have n_z1 := (World.cell?_setCell_other w3 ⟨w.heap.size + 1 + 1, 2, none⟩ ⟨w.heap.size + 1 + 1, 1, none⟩ (Value.slice C1 l e1) (by simp)).trans z1
  have n_z2 := World.cell?_setCell_same _ _ (Value.slice C1 l e1) z2
  have n_fy0 : (w3.setCell ⟨w.heap.size + 1 + 1, 2, none⟩ (Value.slice C1 l e1)).frozen? ⟨w.heap.size + 1, 0, none⟩ = false := by simpa using fy0
  have n_fy1 : (w3.setCell ⟨w.heap.size + 1 + 1, 2, none⟩ (Value.slice C1 l e1)).frozen? ⟨w.heap.size + 1, 1, none⟩ = false := by simpa using fy1
  have n_fy2 : (w3.setCell ⟨w.heap.size + 1 + 1, 2, none⟩ (Value.slice C1 l e1)).frozen? ⟨w.heap.size + 1, 2, none⟩ = false := by simpa using fy2
  have n_fz0 : (w3.setCell ⟨w.heap.size + 1 + 1, 2, none⟩ (Value.slice C1 l e1)).frozen? ⟨w.heap.size + 1 + 1, 0, none⟩ = false := by simpa using fz0
  have n_fz1 : (w3.setCell ⟨w.heap.size + 1 + 1, 2, none⟩ (Value.slice C1 l e1)).frozen? ⟨w.heap.size + 1 + 1, 1, none⟩ = false := by simpa using fz1
  have n_fz2 : (w3.setCell ⟨w.heap.size + 1 + 1, 2, none⟩ (Value.slice C1 l e1)).frozen? ⟨w.heap.size + 1 + 1, 2, none⟩ = false := by simpa using fz2
  have n_o1 := o1.only (Only.setCell w3 (w.heap.size + 1 + 1) 2 none (Value.slice C1 l e1)) (by omega)
  have n_o2 := o2.only (Only.setCell w3 (w.heap.size + 1 + 1) 2 none (Value.slice C1 l e1)) (by omega)
  have n_o3 := o3.only (Only.setCell w3 (w.heap.size + 1 + 1) 2 none (Value.slice C1 l e1)) (by omega)
  have n_b2 := b2.setCell (p := ⟨w.heap.size + 1 + 1, 2, none⟩) (by simp; omega) (Value.slice C1 l e1)
  have hz2 : (w3.setCell ⟨w.heap.size + 1 + 1, 2, none⟩ (Value.slice C1 l e1)).heap.size = w3.heap.size := by simp [World.setCell]
  have e3 := triple_set n_y0 n_y1 n_y2 (Value.slice A1 n c1) (Value.slice B1 m d1) (Value.slice C1 l e1)
  have m_o1 := ((n_o1.only (Only.setCell (w3.setCell ⟨w.heap.size + 1 + 1, 2, none⟩ (Value.slice C1 l e1)) (w.heap.size + 1) 0 none (Value.slice A1 n c1)) (by omega)).only (Only.setCell ((w3.setCell ⟨w.heap.size + 1 + 1, 2, none⟩ (Value.slice C1 l e1)).setCell ⟨w.heap.size + 1, 0, none⟩ (Value.slice A1 n c1)) (w.heap.size + 1) 1 none (Value.slice B1 m d1)) (by omega)).only (Only.setCell (((w3.setCell ⟨w.heap.size + 1 + 1, 2, none⟩ (Value.slice C1 l e1)).setCell ⟨w.heap.size + 1, 0, none⟩ (Value.slice A1 n c1)).setCell ⟨w.heap.size + 1, 1, none⟩ (Value.slice B1 m d1)) (w.heap.size + 1) 2 none (Value.slice C1 l e1)) (by omega)
  have m_o2 := ((n_o2.only (Only.setCell (w3.setCell ⟨w.heap.size + 1 + 1, 2, none⟩ (Value.slice C1 l e1)) (w.heap.size + 1) 0 none (Value.slice A1 n c1)) (by omega)).only (Only.setCell ((w3.setCell ⟨w.heap.size + 1 + 1, 2, none⟩ (Value.slice C1 l e1)).setCell ⟨w.heap.size + 1, 0, none⟩ (Value.slice A1 n c1)) (w.heap.size + 1) 1 none (Value.slice B1 m d1)) (by omega)).only (Only.setCell (((w3.setCell ⟨w.heap.size + 1 + 1, 2, none⟩ (Value.slice C1 l e1)).setCell ⟨w.heap.size + 1, 0, none⟩ (Value.slice A1 n c1)).setCell ⟨w.heap.size + 1, 1, none⟩ (Value.slice B1 m d1)) (w.heap.size + 1) 2 none (Value.slice C1 l e1)) (by omega)
  have m_o3 := ((n_o3.only (Only.setCell (w3.setCell ⟨w.heap.size + 1 + 1, 2, none⟩ (Value.slice C1 l e1)) (w.heap.size + 1) 0 none (Value.slice A1 n c1)) (by omega)).only (Only.setCell ((w3.setCell ⟨w.heap.size + 1 + 1, 2, none⟩ (Value.slice C1 l e1)).setCell ⟨w.heap.size + 1, 0, none⟩ (Value.slice A1 n c1)) (w.heap.size + 1) 1 none (Value.slice B1 m d1)) (by omega)).only (Only.setCell (((w3.setCell ⟨w.heap.size + 1 + 1, 2, none⟩ (Value.slice C1 l e1)).setCell ⟨w.heap.size + 1, 0, none⟩ (Value.slice A1 n c1)).setCell ⟨w.heap.size + 1, 1, none⟩ (Value.slice B1 m d1)) (w.heap.size + 1) 2 none (Value.slice C1 l e1)) (by omega)
  have m_b := ((n_b2.setCell (p := ⟨w.heap.size + 1, 0, none⟩) (by simp) (Value.slice A1 n c1)).setCell (p := ⟨w.heap.size + 1, 1, none⟩) (by simp) (Value.slice B1 m d1)).setCell (p := ⟨w.heap.size + 1, 2, none⟩) (by simp) (Value.slice C1 l e1)
  have m_s : ((((w3.setCell ⟨w.heap.size + 1 + 1, 2, none⟩ (Value.slice C1 l e1)).setCell ⟨w.heap.size + 1, 0, none⟩ (Value.slice A1 n c1)).setCell ⟨w.heap.size + 1, 1, none⟩ (Value.slice B1 m d1)).setCell ⟨w.heap.size + 1, 2, none⟩ (Value.slice C1 l e1)).heap.size = w3.heap.size := by simp [World.setCell]
  have M := Lib.hid (And.intro m_o1 (And.intro m_o2 (And.intro m_o3 (And.intro m_b (And.intro m_s e3)))))
  clear n_x1 n_x2 n_y0 n_y1 n_y2 n_z0 n_z1 n_z2 n_fy0 n_fy1 n_fy2 n_fz0 n_fz1 n_fz2 n_o1 n_o2 n_o3 n_b2 m_o1 m_o2 m_o3 m_b m_s e3 hz2 o1 o2 o3 b2
  go_wp2
  obtain ⟨p1, p2, p3, p4, p5, e0, e1', e2⟩ := M.out
  exact bodyPost_ret (v := .agg #[.slice A1 n c1, .slice B1 m d1, .slice C1 l e1]) (by simp [results, Try.results10, go_sem, e0, e1', e2]) rfl ⟨A1, c1, B1, d1, C1, e1, w1.heap.size, w2.heap.size, rfl, p1.mono (by omega) (Nat.le_refl _), p2.mono (by omega) (Nat.le_refl _), p3.mono (by omega) (by omega), by omega, by omega, by omega, p4⟩

theorem eqSchool_eq (A A' : Option Addr) (n n' c c' : Nat) (xss : List (List Int)) (B B' : Option Addr) (m m' d d' : Nat) (yss : List (List Int)) (C C' : Option Addr) (l l' e e' : Nat) (zs : List Int) (w : World) (h : RowsAt w A n xss) (h' : RowsAt w A' n' xss) (hn : n ≤ 1048576) (hx : ∀ xs ∈ xss, xs.length ≤ 1048576)
    (g : RowsAt w B m yss) (g' : RowsAt w B' m' yss) (hm : m ≤ 1048576) (hy : ∀ xs ∈ yss, xs.length ≤ 1048576) (q : IntsAt w C l zs) (q' : IntsAt w C' l' zs) (hl : l ≤ 1048576) :
    Calls Try.prog 12 #[.agg #[.slice A n c, .slice B m d, .slice C l e], .agg #[.slice A' n' c', .slice B' m' d', .slice C' l' e']] w fun e w' => e = .returned (.bool true) ∧ Below w.heap.size w w' := by
  have HX := Lib.hid hx
  have HY := Lib.hid hy
  clear hx hy
  have a1 := triple_below w (.slice A n c) (.slice B m d) (.slice C l e) 28
  have a2 := a1.trans ((triple_below (w.alloc (.cells #[.slice A n c, .slice B m d, .slice C l e] 28)) (.slice A' n' c') (.slice B' m' d') (.slice C' l' e') 28).mono (by simp))
  have h2 := h.below a2
  have g2 := g.below a2
  have q2 := q.below a2
  have h2' := h'.below a2
  have g2' := g'.below a2
  have q2' := q'.below a2
  clear a1
  go_enter Try.func12, Try.ntmps12
  go_wp2_with fail
  (with_reducible refine (eqIntSS_eq _ _ _ _ _ _ _ _ h2 h2' hn HX.out).mono ?_)
  rintro er w1 ⟨rfl, k, rfl⟩
  go_wp2_with fail
  (with_reducible refine (eqIntSS_eq _ _ _ _ _ _ _ _ (g2.drewN k) (g2'.drewN k) hm HY.out).mono ?_)
  rintro er w1 ⟨rfl, k', rfl⟩
  go_wp2_with fail
  refine (eqIntS_eq _ _ _ _ _ _ _ _ (q2.drewN _) (q2'.drewN _) (by omega)).mono ?_
  rintro er w1 ⟨rfl, k'', rfl⟩
  go_wp2
  go_ret
  exact ⟨rfl, a2.trans (below_of_drewN rfl)⟩

set_option maxHeartbeats 400000 in
theorem markSchool_any (A : Option Addr) (n c lo hi : Nat) (xss : List (List Int)) (B : Option Addr) (m d lo2 hi2 : Nat) (yss : List (List Int)) (C : Option Addr) (l e lo3 hi3 : Nat) (zs : List Int) (k0 : Int) (w : World) (h : OwnR w lo hi (.slice A n c) xss) (hn : n ≤ 1048576) (hx : ∀ xs ∈ xss, xs.length ≤ 1048576)
    (g : OwnR w lo2 hi2 (.slice B m d) yss) (hm : m ≤ 1048576) (hy : ∀ xs ∈ yss, xs.length ≤ 1048576) (q : OwnI w lo3 hi3 (.slice C l e) zs) (hl : l ≤ 1048576) (hd1 : lo ≤ hi) (hd2 : hi ≤ lo2) (hd3 : lo2 ≤ hi2) (hd4 : hi2 ≤ lo3) (hd5 : lo3 ≤ hi3) (hd6 : hi3 ≤ w.heap.size) (h0 : 0 ≤ k0) (h1 : k0 ≤ 288230376151711744) :
    Calls Try.prog 19 #[.agg #[.slice A n c, .slice B m d, .slice C l e], .int .i64 k0] w fun r w' => r = .returned (.int .i64 (endR (endR k0 xss) yss + l)) ∧
      OwnR w' lo hi (.slice A n c) (marksR k0 xss) ∧ OwnR w' lo2 hi2 (.slice B m d) (marksR (endR k0 xss) yss) ∧ OwnI w' lo3 hi3 (.slice C l e) (marks (endR (endR k0 xss) yss) l) ∧ Only lo hi3 w w' ∧ 0 ≤ endR (endR k0 xss) yss + l ∧ endR (endR k0 xss) yss + l ≤ k0 + 3298534883328 := by
  have HX := Lib.hid hx
  have HY := Lib.hid hy
  clear hx hy
  have a1 := triple_below w (.slice A n c) (.slice B m d) (.slice C l e) 28
  have p1 := new_triple w (.slice A n c) (.slice B m d) (.slice C l e) 28 rfl
  have h2 := h.belowW a1
  have g2 := g.belowW a1
  have q2 := q.belowW a1
  have n1 : Only lo hi3 w (w.alloc (.cells #[.slice A n c, .slice B m d, .slice C l e] 28)) := Only.of_below a1 (Nat.le_refl _)
  go_enter Try.func19, Try.ntmps19
  go_wp2_with fail
  (with_reducible refine (markIntSS_any _ _ _ _ _ _ _ _ h2 hn HX.out h0 (by omega)).mono ?_)
  rintro er w1 ⟨rfl, o1, ho, ge, le⟩
  have x1 := ho.cell p1.2.1 (by simp; omega)
  have x2 := ho.cell p1.2.2 (by simp; omega)
  have g3 := g2.only ho (by omega)
  have q3 := q2.only ho (by omega)
  have n2 := n1.trans (ho.mono (Nat.le_refl _) (by omega))
  clear ho n1 p1 a1 h2 g2 q2
  go_wp2_with fail
  (with_reducible refine (markIntSS_any _ _ _ _ _ _ _ _ g3 hm HY.out ge (by omega)).mono ?_)
  rintro er w2 ⟨rfl, o2, ho, ge2, le2⟩
  have o3 := o1.only ho (by omega)
  have x2' := ho.cell x2 (by simp; omega)
  have q4 := q3.only ho (by omega)
  have n3 := n2.trans (ho.mono (by omega) (by omega))
  clear ho n2 o1 x1 x2 q3
  go_wp2_with fail
  (with_reducible refine (markIntS_any _ _ _ _ _ _ _ _ q4 (by omega) ge2 (by omega)).mono ?_)
  rintro er w3 ⟨rfl, o4, ho⟩
  have o5 := o3.only ho (by omega)
  have o6 := o2.only ho (by omega)
  have n4 := n3.trans (ho.mono (by omega) (Nat.le_refl _))
  clear ho n3 o3 o2 q4
  go_wp2
  go_ret
  exact ⟨rfl, o5, o6, o4, n4, by omega, by omega⟩
end Go.Proofs.Ytmakbndlobaaaaa
