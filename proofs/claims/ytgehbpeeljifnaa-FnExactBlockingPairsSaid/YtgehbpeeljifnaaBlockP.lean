/- The pairs that block a matching, in order. -/
import Derived.Test.YtgehbpeeljifnaaSortW
namespace Go.Proofs.Ytgehbpeeljifnaa
set_option linter.unusedVariables false
open Go.RowKit

def blocksR (xss yss : List (List Int)) (zs : List Int) : List (List Int) := if matchOk xss yss zs then blocksM xss yss zs else []
theorem blocksR_no {xss yss : List (List Int)} {zs : List Int} (h : matchOk xss yss zs = false) : blocksR xss yss zs = [] := by unfold blocksR; rw [h]; rfl
theorem blocksR_yes {xss yss : List (List Int)} {zs : List Int} (h : matchOk xss yss zs = true) : blocksR xss yss zs = blocksM xss yss zs := by unfold blocksR; rw [h]; rfl
set_option maxHeartbeats 800000 in
theorem implBlockingPairs (A : Option Addr) (n c : Nat) (xss : List (List Int)) (B : Option Addr) (m d : Nat) (yss : List (List Int)) (C : Option Addr) (l e : Nat) (zs : List Int) (w : World) (h : RowsAt w A n xss) (hn : n ≤ 1048576) (hx : ∀ xs ∈ xss, xs.length ≤ 1048576)
    (g : RowsAt w B m yss) (hm : m ≤ 1048576) (hy : ∀ xs ∈ yss, xs.length ≤ 1048576) (q : IntsAt w C l zs) (hl : l ≤ 1048576) (hc : l ≤ e) :
    Calls Try.prog 34 #[.agg #[.slice A n c, .slice B m d], .slice C l e] w fun e w' => ∃ A' c', e = .returned (.slice A' (blocksR xss yss zs).length c') ∧ OwnR w' w.heap.size w'.heap.size (.slice A' (blocksR xss yss zs).length c') (blocksR xss yss zs) ∧ (blocksR xss yss zs).length ≤ 1048576 ∧ (∀ xs ∈ blocksR xss yss zs, xs.length ≤ 1048576) ∧ Below w.heap.size w w' := by
  obtain rfl := h.len
  obtain rfl := g.len
  obtain rfl := q.len
  have HX := Lib.hid hx
  have HY := Lib.hid hy
  clear hx hy
  have hall := pair_below w (.slice A xss.length c) (.slice B yss.length d) 32
  have hs0 := pair_size w (.slice A xss.length c) (.slice B yss.length d) 32
  have h0 := h.below hall
  have g0 := g.below hall
  have q0 := q.below hall
  have M0 := MktAt.new h g (c := c) (d := d) 32
  have hz0 : w.heap.size ≤ (w.alloc (.cells #[.slice A xss.length c, .slice B yss.length d] 32)).heap.size := by omega
  cases m1 : matchOk xss yss zs
  · rw [blocksR_no m1]
    go_enter Try.func34, Try.ntmps34
    go_wp2_with fail
    (with_reducible refine (implIsMatching _ _ _ _ _ _ _ _ _ _ _ _ _ h0 hn HX.out g0 hm HY.out q0 hl hc).mono ?_)
    rintro e w1 ⟨rfl, hb⟩
    rw [m1]
    have hb2 := hall.trans (hb.mono hz0)
    clear hb hall hs0 M0 hz0
    go_wp2
    go_ret
    exact ⟨none, 0, rfl, OwnR.nil _ _ _, by simp, by simp, hb2⟩
  rw [blocksR_yes m1]
  have F := match_facts m1
  have FF := Lib.hid F
  have f1 := F.hi
  have f2 := F.lo
  have fz1 := Nat.le_of_eq F.zl
  have hbl : (blocksM xss yss zs).length ≤ 1048576 := by have := blocksM_len (xss := xss) (yss := yss) (zs := zs) (by omega); omega
  clear F
  go_enter Try.func34, Try.ntmps34
  go_wp2_with fail
  (with_reducible refine (implIsMatching _ _ _ _ _ _ _ _ _ _ _ _ _ h0 hn HX.out g0 hm HY.out q0 hl hc).mono ?_)
  rintro e w1 ⟨rfl, hb⟩
  rw [m1]
  have hb2 := hall.trans (hb.mono hz0)
  have s2 := hb2.size
  have M1 := M0.below hb
  have q1 := q0.below hb
  clear hb hall hs0 M0 hz0
  obtain ⟨c0, c1, h1, g1⟩ := M1
  go_wp2_with fail
  (with_reducible refine (blocks_any _ _ _ _ _ _ _ _ _ _ _ _ _ h1 g1 q1 FF.out).mono ?_)
  rintro e w2 ⟨A1, e1, rfl, o1, hb⟩
  have hb3 := hb2.trans (hb.mono s2)
  clear hb hb2 c0 c1
  go_wp2
  go_ret
  exact ⟨_, _, rfl, o1.mono s2 (Nat.le_refl _), hbl, blocksM_row, hb3⟩
set_option maxHeartbeats 800000 in
theorem specBlockingPairs (A : Option Addr) (n c : Nat) (xss : List (List Int)) (B : Option Addr) (m d : Nat) (yss : List (List Int)) (C : Option Addr) (l e : Nat) (zs : List Int) (w : World) (h : RowsAt w A n xss) (hn : n ≤ 1048576) (hx : ∀ xs ∈ xss, xs.length ≤ 1048576)
    (g : RowsAt w B m yss) (hm : m ≤ 1048576) (hy : ∀ xs ∈ yss, xs.length ≤ 1048576) (q : IntsAt w C l zs) (hl : l ≤ 1048576) (hc : l ≤ e) :
    Calls Try.prog 33 #[.agg #[.slice A n c, .slice B m d], .slice C l e] w fun e w' => ∃ A' c', e = .returned (.slice A' (blocksR xss yss zs).length c') ∧ OwnR w' w.heap.size w'.heap.size (.slice A' (blocksR xss yss zs).length c') (blocksR xss yss zs) ∧ (blocksR xss yss zs).length ≤ 1048576 ∧ (∀ xs ∈ blocksR xss yss zs, xs.length ≤ 1048576) ∧ Below w.heap.size w w' := by
  obtain rfl := h.len
  obtain rfl := g.len
  obtain rfl := q.len
  have HX := Lib.hid hx
  have HY := Lib.hid hy
  clear hx hy
  have hall := pair_below w (.slice A xss.length c) (.slice B yss.length d) 32
  have hs0 := pair_size w (.slice A xss.length c) (.slice B yss.length d) 32
  have h0 := h.below hall
  have g0 := g.below hall
  have q0 := q.below hall
  have M0 := MktAt.new h g (c := c) (d := d) 32
  have hz0 : w.heap.size ≤ (w.alloc (.cells #[.slice A xss.length c, .slice B yss.length d] 32)).heap.size := by omega
  cases m1 : matchOk xss yss zs
  · rw [blocksR_no m1]
    go_enter Try.func33, Try.ntmps33
    go_wp2_with fail
    (with_reducible refine (specIsMatching _ _ _ _ _ _ _ _ _ _ _ _ _ h0 hn HX.out g0 hm HY.out q0 hl hc).mono ?_)
    rintro e w1 ⟨rfl, hb⟩
    rw [m1]
    have hb2 := hall.trans (hb.mono hz0)
    clear hb hall hs0 M0 hz0
    go_wp2
    go_ret
    exact ⟨none, 0, rfl, OwnR.nil _ _ _, by simp, by simp, hb2⟩
  rw [blocksR_yes m1]
  have F := match_facts m1
  have FF := Lib.hid F
  have f1 := F.hi
  have f2 := F.lo
  have fz1 := Nat.le_of_eq F.zl
  have hbl : (blocksM xss yss zs).length ≤ 1048576 := by have := blocksM_len (xss := xss) (yss := yss) (zs := zs) (by omega); omega
  clear F
  go_enter Try.func33, Try.ntmps33
  go_wp2_with fail
  (with_reducible refine (specIsMatching _ _ _ _ _ _ _ _ _ _ _ _ _ h0 hn HX.out g0 hm HY.out q0 hl hc).mono ?_)
  rintro e w1 ⟨rfl, hb⟩
  rw [m1]
  have hb2 := hall.trans (hb.mono hz0)
  have s2 := hb2.size
  have M1 := M0.below hb
  have q1 := q0.below hb
  clear hb hall hs0 M0 hz0
  obtain ⟨c0, c1, h1, g1⟩ := M1
  go_wp2_with fail
  (with_reducible refine (l17Blocks_any _ _ _ _ _ _ _ _ _ _ _ _ _ h1 g1 q1 FF.out).mono ?_)
  rintro e w2 ⟨A1, e1, rfl, o1, hb⟩
  have hb3 := hb2.trans (hb.mono s2)
  have s3 := hb3.size
  have s4 := hb.size
  have hsl := blocksS_len (xss := xss) (yss := yss) (zs := zs) (by omega)
  have SM := Lib.hid (blocksS_small FF.out)
  have SP := Lib.hid (blocks_perm FF.out)
  have SS := Lib.hid (blocksM_sorted FF.out)
  clear hb hb2 c0 c1
  go_wp2_with fail
  (with_reducible refine (l17Sort_any _ _ _ _ (blocksM xss yss zs) _ _ _ o1 (Nat.le_refl _) s4 hsl SM.out SP.out SS.out).mono ?_)
  rintro e w3 ⟨A3, c3, rfl, o3, b3⟩
  have hb4 := hb3.trans (b3.mono s3)
  clear hb3 b3
  go_wp2
  go_ret
  exact ⟨_, _, rfl, o3.mono s2 (Nat.le_refl _), hbl, blocksM_row, hb4⟩
end Go.Proofs.Ytgehbpeeljifnaa
