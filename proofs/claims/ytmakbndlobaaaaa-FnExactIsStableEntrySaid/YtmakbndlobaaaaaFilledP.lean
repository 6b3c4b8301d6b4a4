/- The places that are filled by an entry. -/
import Derived.Test.YtmakbndlobaaaaaEntry
namespace Go.Proofs.Ytmakbndlobaaaaa
set_option linter.unusedVariables false
open Go.RowKit

def filledPl (sss ccc : List (List Int)) (ps zs : List Int) : List Int := if entryOk sss ccc ps zs then filledOf ccc zs else []
theorem filledPl_no {sss ccc : List (List Int)} {ps zs : List Int} (h : entryOk sss ccc ps zs = false) : filledPl sss ccc ps zs = [] := by unfold filledPl; rw [h]; rfl
theorem filledPl_yes {sss ccc : List (List Int)} {ps zs : List Int} (h : entryOk sss ccc ps zs = true) : filledPl sss ccc ps zs = filledOf ccc zs := by unfold filledPl; rw [if_pos h]
theorem filledOf_len (ccc : List (List Int)) (zs : List Int) : (filledOf ccc zs).length = ccc.length := fillTo_len _ _ _
set_option maxHeartbeats 800000 in
theorem implFilledPlaces (A : Option Addr) (n c : Nat) (sss : List (List Int)) (B : Option Addr) (m d : Nat) (ccc : List (List Int)) (C : Option Addr) (l e : Nat) (ps : List Int) (D : Option Addr) (p r : Nat) (zs : List Int) (w : World) (h : RowsAt w A n sss) (hn : n ≤ 1048576) (hx : ∀ xs ∈ sss, xs.length ≤ 1048576)
    (g : RowsAt w B m ccc) (hm : m ≤ 1048576) (hy : ∀ xs ∈ ccc, xs.length ≤ 1048576) (q : IntsAt w C l ps) (hl : l ≤ 1048576) (z : IntsAt w D p zs) (hp : p ≤ 1048576) :
    Calls Try.prog 18 #[.agg #[.slice A n c, .slice B m d, .slice C l e], .slice D p r] w fun r w' => ∃ A' c', r = .returned (.slice A' (filledPl sss ccc ps zs).length c') ∧ OwnI w' w.heap.size w'.heap.size (.slice A' (filledPl sss ccc ps zs).length c') (filledPl sss ccc ps zs) ∧ (filledPl sss ccc ps zs).length ≤ 1048576 ∧ Below w.heap.size w w' := by
  obtain rfl := h.len
  obtain rfl := g.len
  obtain rfl := q.len
  obtain rfl := z.len
  have HX := Lib.hid hx
  have HY := Lib.hid hy
  clear hx hy
  have hall := triple_below w (.slice A sss.length c) (.slice B ccc.length d) (.slice C ps.length e) 28
  have hz0 := hall.size
  have S0 := SchAt.new h g q (c := c) (d := d) (e := e) 28
  obtain ⟨c0, c1, c2, h0, g0, q0⟩ := S0
  have S0 : SchAt (w.alloc (.cells #[.slice A sss.length c, .slice B ccc.length d, .slice C ps.length e] 28)) _ _ _ _ _ _ _ _ _ _ _ _ _ := ⟨c0, c1, c2, h0, g0, q0⟩
  have z0 := z.below hall
  cases h1 : entryOk sss ccc ps zs
  · rw [filledPl_no h1]
    go_enter Try.func18, Try.ntmps18
    go_wp2_with fail
    (with_reducible refine (implEntryOk _ _ _ _ _ _ _ _ _ _ _ _ _ _ _ _ _ h0 hn HX.out g0 hm HY.out q0 hl z0 hp).mono ?_)
    rintro er w1 ⟨rfl, hb⟩
    rw [h1]
    have b1 := hall.trans (hb.mono hz0)
    clear hb S0 hall hz0 c0 c1 c2 h0 g0 q0 z0
    go_wp2
    go_ret
    exact ⟨none, 0, rfl, OwnI.nil _ _ _, by simp, b1⟩
  rw [filledPl_yes h1, filledOf_len]
  have FE := Lib.hid (entry_facts h1)
  go_enter Try.func18, Try.ntmps18
  go_wp2_with fail
  (with_reducible refine (implEntryOk _ _ _ _ _ _ _ _ _ _ _ _ _ _ _ _ _ h0 hn HX.out g0 hm HY.out q0 hl z0 hp).mono ?_)
  rintro er w1 ⟨rfl, hb⟩
  rw [h1]
  have S1 := S0.below hb
  have z1 := z0.below hb
  have b1 := hall.trans (hb.mono hz0)
  have s1 := b1.size
  clear hb S0 hall hz0 c0 c1 c2 h0 g0 q0 z0
  obtain ⟨c0, c1, c2, h0, g0, q0⟩ := S1
  go_wp2_with fail
  (with_reducible refine (filled_any _ _ _ _ _ _ _ _ _ _ _ _ _ _ _ _ _ h0 g0 q0 z1 FE.out).mono ?_)
  rintro er w3 ⟨A3, c3, rfl, of3, hb⟩
  have b3 := b1.trans (hb.mono s1)
  clear hb b1 c0 c1 c2 h0 g0 q0 z1
  go_wp2
  go_ret
  exact ⟨_, _, rfl, of3.mono s1 (Nat.le_refl _), hm, b3⟩
set_option maxHeartbeats 800000 in
theorem specFilledPlaces (A : Option Addr) (n c : Nat) (sss : List (List Int)) (B : Option Addr) (m d : Nat) (ccc : List (List Int)) (C : Option Addr) (l e : Nat) (ps : List Int) (D : Option Addr) (p r : Nat) (zs : List Int) (w : World) (h : RowsAt w A n sss) (hn : n ≤ 1048576) (hx : ∀ xs ∈ sss, xs.length ≤ 1048576)
    (g : RowsAt w B m ccc) (hm : m ≤ 1048576) (hy : ∀ xs ∈ ccc, xs.length ≤ 1048576) (q : IntsAt w C l ps) (hl : l ≤ 1048576) (z : IntsAt w D p zs) (hp : p ≤ 1048576) :
    Calls Try.prog 17 #[.agg #[.slice A n c, .slice B m d, .slice C l e], .slice D p r] w fun r w' => ∃ A' c', r = .returned (.slice A' (filledPl sss ccc ps zs).length c') ∧ OwnI w' w.heap.size w'.heap.size (.slice A' (filledPl sss ccc ps zs).length c') (filledPl sss ccc ps zs) ∧ (filledPl sss ccc ps zs).length ≤ 1048576 ∧ Below w.heap.size w w' := by
  obtain rfl := h.len
  obtain rfl := g.len
  obtain rfl := q.len
  obtain rfl := z.len
  have HX := Lib.hid hx
  have HY := Lib.hid hy
  clear hx hy
  have hall := triple_below w (.slice A sss.length c) (.slice B ccc.length d) (.slice C ps.length e) 28
  have hz0 := hall.size
  have S0 := SchAt.new h g q (c := c) (d := d) (e := e) 28
  obtain ⟨c0, c1, c2, h0, g0, q0⟩ := S0
  have S0 : SchAt (w.alloc (.cells #[.slice A sss.length c, .slice B ccc.length d, .slice C ps.length e] 28)) _ _ _ _ _ _ _ _ _ _ _ _ _ := ⟨c0, c1, c2, h0, g0, q0⟩
  have z0 := z.below hall
  cases h1 : entryOk sss ccc ps zs
  · rw [filledPl_no h1]
    go_enter Try.func17, Try.ntmps17
    go_wp2_with fail
    (with_reducible refine (specEntryOk _ _ _ _ _ _ _ _ _ _ _ _ _ _ _ _ _ h0 hn HX.out g0 hm HY.out q0 hl z0 hp).mono ?_)
    rintro er w1 ⟨rfl, hb⟩
    rw [h1]
    have b1 := hall.trans (hb.mono hz0)
    clear hb S0 hall hz0 c0 c1 c2 h0 g0 q0 z0
    go_wp2
    go_ret
    exact ⟨none, 0, rfl, OwnI.nil _ _ _, by simp, b1⟩
  rw [filledPl_yes h1, filledOf_len]
  have FE := Lib.hid (entry_facts h1)
  go_enter Try.func17, Try.ntmps17
  go_wp2_with fail
  (with_reducible refine (specEntryOk _ _ _ _ _ _ _ _ _ _ _ _ _ _ _ _ _ h0 hn HX.out g0 hm HY.out q0 hl z0 hp).mono ?_)
  rintro er w1 ⟨rfl, hb⟩
  rw [h1]
  have S1 := S0.below hb
  have z1 := z0.below hb
  have b1 := hall.trans (hb.mono hz0)
  have s1 := b1.size
  clear hb S0 hall hz0 c0 c1 c2 h0 g0 q0 z0
  obtain ⟨c0, c1, c2, h0, g0, q0⟩ := S1
  go_wp2_with fail
  (with_reducible refine (l21Filled_any _ _ _ _ _ _ _ _ _ _ _ _ _ _ _ _ _ h0 g0 q0 z1 FE.out).mono ?_)
  rintro er w3 ⟨A3, c3, rfl, of3, hb⟩
  have b3 := b1.trans (hb.mono s1)
  clear hb b1 c0 c1 c2 h0 g0 q0 z1
  go_wp2
  go_ret
  exact ⟨_, _, rfl, of3.mono s1 (Nat.le_refl _), hm, b3⟩
end Go.Proofs.Ytmakbndlobaaaaa
