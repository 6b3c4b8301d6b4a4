/- A market turned round, with the bounds of what comes back; the marks on such a market. -/
import Derived.Test.YtbhkpingpipdpaaTurnM
import Derived.Test.YtbhkpingpipdpaaLawMarket
namespace Go.Proofs.Ytbhkpingpipdpaa
set_option linter.unusedVariables false
open Go.RowKit

theorem implTurnMarketC (A : Option Addr) (n c : Nat) (xss : List (List Int)) (B : Option Addr) (m d : Nat) (yss : List (List Int)) (w : World) (h : RowsAt w A n xss) (hn : n ≤ 1048576) (hx : ∀ xs ∈ xss, xs.length ≤ 1048576)
    (g : RowsAt w B m yss) (hm : m ≤ 1048576) (hy : ∀ xs ∈ yss, xs.length ≤ 1048576) :
    Calls Try.prog 11 #[.agg #[.slice A n c, .slice B m d]] w fun e w' => ∃ A1 c1 B1 d1, e = .returned (.tuple #[.agg #[.slice A1 (turnMen xss yss).length c1, .slice B1 (turnWom xss yss).length d1], .bool (marketOk xss yss)]) ∧
      OwnM w' w.heap.size w'.heap.size A1 (turnMen xss yss).length c1 (turnMen xss yss) B1 (turnWom xss yss).length d1 (turnWom xss yss) ∧
      (turnMen xss yss).length ≤ 1048576 ∧ (∀ xs ∈ turnMen xss yss, xs.length ≤ 1048576) ∧ (turnWom xss yss).length ≤ 1048576 ∧ (∀ xs ∈ turnWom xss yss, xs.length ≤ 1048576) ∧ Below w.heap.size w w' := by
  have hbd := turn_bd hx hy (by have := h.len; omega) (by have := g.len; omega)
  refine (implTurnMarket A n c xss B m d yss w h hn hx g hm hy).mono ?_
  rintro e w' ⟨A1, c1, B1, d1, he, ho, hb⟩
  exact ⟨A1, c1, B1, d1, he, ho, hbd.1, hbd.2.1, hbd.2.2.1, hbd.2.2.2, hb⟩
theorem specTurnMarketC (A : Option Addr) (n c : Nat) (xss : List (List Int)) (B : Option Addr) (m d : Nat) (yss : List (List Int)) (w : World) (h : RowsAt w A n xss) (hn : n ≤ 1048576) (hx : ∀ xs ∈ xss, xs.length ≤ 1048576)
    (g : RowsAt w B m yss) (hm : m ≤ 1048576) (hy : ∀ xs ∈ yss, xs.length ≤ 1048576) :
    Calls Try.prog 9 #[.agg #[.slice A n c, .slice B m d]] w fun e w' => ∃ A1 c1 B1 d1, e = .returned (.tuple #[.agg #[.slice A1 (turnMen xss yss).length c1, .slice B1 (turnWom xss yss).length d1], .bool (marketOk xss yss)]) ∧
      OwnM w' w.heap.size w'.heap.size A1 (turnMen xss yss).length c1 (turnMen xss yss) B1 (turnWom xss yss).length d1 (turnWom xss yss) ∧
      (turnMen xss yss).length ≤ 1048576 ∧ (∀ xs ∈ turnMen xss yss, xs.length ≤ 1048576) ∧ (turnWom xss yss).length ≤ 1048576 ∧ (∀ xs ∈ turnWom xss yss, xs.length ≤ 1048576) ∧ Below w.heap.size w w' := by
  have hbd := turn_bd hx hy (by have := h.len; omega) (by have := g.len; omega)
  refine (specTurnMarket A n c xss B m d yss w h hn hx g hm hy).mono ?_
  rintro e w' ⟨A1, c1, B1, d1, he, ho, hb⟩
  exact ⟨A1, c1, B1, d1, he, ho, hbd.1, hbd.2.1, hbd.2.2.1, hbd.2.2.2, hb⟩

set_option maxHeartbeats 400000 in
theorem markMarketM_any (A : Option Addr) (n c lo hi : Nat) (xss : List (List Int)) (B : Option Addr) (m d : Nat) (yss : List (List Int)) (k0 : Int) (w : World) (h : OwnM w lo hi A n c xss B m d yss) (hn : n ≤ 1048576) (hx : ∀ xs ∈ xss, xs.length ≤ 1048576)
    (hm : m ≤ 1048576) (hy : ∀ xs ∈ yss, xs.length ≤ 1048576) (hd3 : lo ≤ hi) (hd4 : hi ≤ w.heap.size) (h0 : 0 ≤ k0) (h1 : k0 ≤ 288230376151711744) :
    Calls Try.prog 13 #[.agg #[.slice A n c, .slice B m d], .int .i64 k0] w fun e w' => e = .returned (.int .i64 (endR (endR k0 xss) yss)) ∧
      OwnM w' lo hi A n c (marksR k0 xss) B m d (marksR (endR k0 xss) yss) ∧ Only lo hi w w' ∧ 0 ≤ endR (endR k0 xss) yss ∧ endR (endR k0 xss) yss ≤ k0 + 2199023255552 := by
  obtain ⟨l1, h1', l2, h2', o1, o2, r1, r2, r3, r4, r5, r6, r7⟩ := h
  have HX := Lib.hid hx
  have HY := Lib.hid hy
  clear hx hy
  have a1 := pair_below w (.slice A n c) (.slice B m d) 26
  have p1 := new_pair w (.slice A n c) (.slice B m d) 26 rfl
  have h2 := o1.belowW a1
  have g2 := o2.belowW a1
  have n1 : Only lo hi w (w.alloc (.cells #[.slice A n c, .slice B m d] 26)) := Only.of_below a1 (Nat.le_refl _)
  go_enter Try.func13, Try.ntmps13
  go_wp2_with fail
  (with_reducible refine (markIntSS_any _ _ _ _ _ _ _ _ h2 hn HX.out h0 (by omega)).mono ?_)
  rintro e w1 ⟨rfl, o1, ho, ge, le⟩
  have x1 := ho.cell p1.2 (by simp; omega)
  have g3 := g2.only ho (by omega)
  have n2 := n1.trans (ho.mono (by omega) (by omega))
  clear ho n1 p1 a1 h2 g2
  go_wp2_with fail
  (with_reducible refine (markIntSS_any _ _ _ _ _ _ _ _ g3 hm HY.out ge (by omega)).mono ?_)
  rintro e w2 ⟨rfl, o2, ho, ge2, le2⟩
  have o3 := o1.only ho (by omega)
  have n3 := n2.trans (ho.mono (by omega) (by omega))
  clear ho n2 o1
  go_wp2
  go_ret
  exact ⟨rfl, ⟨l1, h1', l2, h2', o3, o2, r1, r2, r3, r4, r5, r6, r7⟩, n3, ge2, by omega⟩
end Go.Proofs.Ytbhkpingpipdpaa
