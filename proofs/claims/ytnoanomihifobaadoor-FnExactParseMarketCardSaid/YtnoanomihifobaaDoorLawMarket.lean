/- The exact laws' own helpers on markets: size, copy, comparison, marks. -/
import Derived.Test.YtnoanomihifobaaDoorLawMarket0
namespace Go.Proofs.YtnoanomihifobaaDoor
set_option linter.unusedVariables false
open Go.RowKit



theorem eqMarket_eq (A A' : Option Addr) (n n' c c' : Nat) (xss : List (List Int)) (B B' : Option Addr) (m m' d d' : Nat) (yss : List (List Int)) (w : World) (h : RowsAt w A n xss) (h' : RowsAt w A' n' xss) (hn : n ≤ 1048576) (hx : ∀ xs ∈ xss, xs.length ≤ 1048576)
    (g : RowsAt w B m yss) (g' : RowsAt w B' m' yss) (hm : m ≤ 1048576) (hy : ∀ xs ∈ yss, xs.length ≤ 1048576) :
    Calls Tryd.prog 6 #[.agg #[.slice A n c, .slice B m d], .agg #[.slice A' n' c', .slice B' m' d']] w fun e w' => e = .returned (.bool true) ∧ Below w.heap.size w w' := by
  have HX := Lib.hid hx
  have HY := Lib.hid hy
  clear hx hy
  have a1 := pair_below w (.slice A n c) (.slice B m d) 24
  have a2 := a1.trans ((pair_below (w.alloc (.cells #[.slice A n c, .slice B m d] 24)) (.slice A' n' c') (.slice B' m' d') 24).mono (by simp))
  have h2 := h.below a2
  have g2 := g.below a2
  have h2' := h'.below a2
  have g2' := g'.below a2
  clear a1
  go_enter Tryd.func6, Tryd.ntmps6
  go_wp2_with fail
  (with_reducible refine (eqIntSS_eq _ _ _ _ _ _ _ _ h2 h2' hn HX.out).mono ?_)
  rintro e w1 ⟨rfl, k, rfl⟩
  go_wp2_with fail
  (with_reducible refine (eqIntSS_eq _ _ _ _ _ _ _ _ (g2.drewN k) (g2'.drewN k) hm HY.out).mono ?_)
  rintro e w1 ⟨rfl, k', rfl⟩
  go_wp2
  go_ret
  exact ⟨rfl, a2.trans (below_of_drewN rfl)⟩

set_option maxHeartbeats 400000 in
theorem markMarket_any (A : Option Addr) (n c lo hi : Nat) (xss : List (List Int)) (B : Option Addr) (m d lo2 hi2 : Nat) (yss : List (List Int)) (k0 : Int) (w : World) (h : OwnR w lo hi (.slice A n c) xss) (hn : n ≤ 1048576) (hx : ∀ xs ∈ xss, xs.length ≤ 1048576)
    (g : OwnR w lo2 hi2 (.slice B m d) yss) (hm : m ≤ 1048576) (hy : ∀ xs ∈ yss, xs.length ≤ 1048576) (hd1 : lo ≤ hi) (hd2 : hi ≤ lo2) (hd3 : lo2 ≤ hi2) (hd4 : hi2 ≤ w.heap.size) (h0 : 0 ≤ k0) (h1 : k0 ≤ 288230376151711744) :
    Calls Tryd.prog 7 #[.agg #[.slice A n c, .slice B m d], .int .i64 k0] w fun e w' => e = .returned (.int .i64 (endR (endR k0 xss) yss)) ∧
      OwnR w' lo hi (.slice A n c) (marksR k0 xss) ∧ OwnR w' lo2 hi2 (.slice B m d) (marksR (endR k0 xss) yss) ∧ Only lo hi2 w w' ∧ 0 ≤ endR (endR k0 xss) yss ∧ endR (endR k0 xss) yss ≤ k0 + 2199023255552 := by
  have HX := Lib.hid hx
  have HY := Lib.hid hy
  clear hx hy
  have a1 := pair_below w (.slice A n c) (.slice B m d) 24
  have p1 := new_pair w (.slice A n c) (.slice B m d) 24 rfl
  have h2 := h.belowW a1
  have g2 := g.belowW a1
  have n1 : Only lo hi2 w (w.alloc (.cells #[.slice A n c, .slice B m d] 24)) := Only.of_below a1 (Nat.le_refl _)
  go_enter Tryd.func7, Tryd.ntmps7
  go_wp2_with fail
  (with_reducible refine (markIntSS_any _ _ _ _ _ _ _ _ h2 hn HX.out h0 (by omega)).mono ?_)
  rintro e w1 ⟨rfl, o1, ho, ge, le⟩
  have x1 := ho.cell p1.2 (by simp; omega)
  have g3 := g2.only ho (by omega)
  have n2 := n1.trans (ho.mono (Nat.le_refl _) (by omega))
  clear ho n1 p1 a1 h2 g2
  go_wp2_with fail
  (with_reducible refine (markIntSS_any _ _ _ _ _ _ _ _ g3 hm HY.out ge (by omega)).mono ?_)
  rintro e w2 ⟨rfl, o2, ho, ge2, le2⟩
  have o3 := o1.only ho (by omega)
  have n3 := n2.trans (ho.mono (by omega) (Nat.le_refl _))
  clear ho n2 o1
  go_wp2
  go_ret
  exact ⟨rfl, o3, o2, n3, ge2, by omega⟩
theorem heldMarket_any (A : Option Addr) (n c : Nat) (xss : List (List Int)) (B : Option Addr) (m d : Nat) (yss : List (List Int)) (k0 : Int) (w : World) (h : RowsAt w A n (marksR k0 xss)) (hn : n ≤ 1048576) (hx : ∀ xs ∈ xss, xs.length ≤ 1048576)
    (g : RowsAt w B m (marksR (endR k0 xss) yss)) (hm : m ≤ 1048576) (hy : ∀ xs ∈ yss, xs.length ≤ 1048576) (h0 : 0 ≤ k0) (h1 : k0 ≤ 288230376151711744) :
    Calls Tryd.prog 8 #[.agg #[.slice A n c, .slice B m d], .int .i64 k0] w fun e w' => e = .returned (.int .i64 (endR (endR k0 xss) yss)) ∧ Below w.heap.size w w' := by
  have HX := Lib.hid hx
  have HY := Lib.hid hy
  have e1 := endR_ge k0 xss
  have e2 := endR_ge (endR k0 xss) yss
  have l1 : xss.length ≤ 1048576 := by have := h.len; rw [marksR_len] at this; omega
  have e3 := endR_le k0 xss 1048576 hx
  have e4 : (xss.length : Int) * ((1048576 : Nat) : Int) ≤ 1048576 * 1048576 := by omega
  clear hx hy
  have a1 := pair_below w (.slice A n c) (.slice B m d) 24
  have h2 := h.below a1
  have g2 := g.below a1
  go_enter Tryd.func8, Tryd.ntmps8
  go_wp2_with fail
  (with_reducible refine (heldIntSS_any _ _ _ _ _ _ h2 hn HX.out h0 (by omega)).mono ?_)
  rintro e w1 ⟨rfl, rfl⟩
  go_wp2_with fail
  (with_reducible refine (heldIntSS_any _ _ _ _ _ _ g2 hm HY.out (by omega) (by omega)).mono ?_)
  rintro e w1 ⟨rfl, rfl⟩
  go_wp2
  go_ret
  exact ⟨rfl, a1⟩
end Go.Proofs.YtnoanomihifobaaDoor
