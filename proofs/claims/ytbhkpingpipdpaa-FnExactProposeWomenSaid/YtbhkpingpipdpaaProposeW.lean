/- Women propose. -/
import Derived.Test.YtbhkpingpipdpaaProposeI
import Derived.Test.YtbhkpingpipdpaaProposeS
import Derived.Test.YtbhkpingpipdpaaTurnM
namespace Go.Proofs.Ytbhkpingpipdpaa
set_option linter.unusedVariables false
open Go.RowKit

def propWList (xss yss : List (List Int)) : List Int := turnOf (propList (turnMen xss yss) (turnWom xss yss))
def propWCnt (xss yss : List (List Int)) : Int := propCnt (turnMen xss yss) (turnWom xss yss)
theorem propW_no {xss yss : List (List Int)} (h : marketOk xss yss = false) : propWList xss yss = [] ∧ propWCnt xss yss = 0 := by
  have e : marketOk [] [] = false := by decide +kernel
  unfold propWList propWCnt propList propCnt
  rw [(turn_no h).1, (turn_no h).2, propose_no e]
  refine ⟨?_, rfl⟩
  show turnOf [] = []
  unfold turnOf
  split <;> rfl
set_option maxHeartbeats 1600000 in
theorem implProposeWomen (A : Option Addr) (n c : Nat) (xss : List (List Int)) (B : Option Addr) (m d : Nat) (yss : List (List Int)) (w : World) (h : RowsAt w A n xss) (hn : n ≤ 1048576) (hx : ∀ xs ∈ xss, xs.length ≤ 1048576)
    (g : RowsAt w B m yss) (hm : m ≤ 1048576) (hy : ∀ xs ∈ yss, xs.length ≤ 1048576) :
    Calls Try.prog 26 #[.agg #[.slice A n c, .slice B m d]] w fun e w' => ∃ A' c', e = .returned (.tuple #[.slice A' (propWList xss yss).length c', .int .i64 (propWCnt xss yss)]) ∧ OwnI w' w.heap.size w'.heap.size (.slice A' (propWList xss yss).length c') (propWList xss yss) ∧ (propWList xss yss).length ≤ 1048576 ∧ Below w.heap.size w w' := by
  have hbd := turn_bd hx hy (by have := h.len; omega) (by have := g.len; omega)
  have q1 := hbd.1
  have Q2 := Lib.hid hbd.2.1
  have q3 := hbd.2.2.1
  have Q4 := Lib.hid hbd.2.2.2
  have HX := Lib.hid hx
  have HY := Lib.hid hy
  have hall := pair_below w (.slice A n c) (.slice B m d) 26
  have hK := MktAt.new (c := c) (d := d) h g 26
  have x0 := hK.c0
  have x1 := hK.c1
  clear hx hy hbd
  go_enter Try.func26, Try.ntmps26
  go_wp2_with fail
  generalize w.alloc (.cells #[.slice A n c, .slice B m d] 26) = w0 at *
  (with_reducible refine (implTurnMarket _ _ _ _ _ _ _ _ _ hK.men hn HX.out hK.women hm HY.out).mono ?_)
  rintro e w1 ⟨A1, c1, B1, d1, rfl, om, b1⟩
  have b2 := pair_below w1 (.slice A1 (turnMen xss yss).length c1) (.slice B1 (turnWom xss yss).length d1) 26
  have om2 := om.belowW b2
  have h3 := b1.size
  have b3 := hall.trans ((b1.trans (b2.mono h3)).mono hall.size)
  have t0 := new_pair w1 (.slice A1 (turnMen xss yss).length c1) (.slice B1 (turnWom xss yss).length d1) 26 rfl
  have t1 := t0.1
  have t2 := t0.2
  clear om b1 b2 t0
  go_wp2_with fail
  generalize w1.alloc (.cells #[.slice A1 (turnMen xss yss).length c1, .slice B1 (turnWom xss yss).length d1] 26) = w2 at *
  (with_reducible refine (implProposeMen A1 _ c1 (turnMen xss yss) B1 _ d1 (turnWom xss yss) _ om2.men q1 Q2.out om2.women q3 Q4.out).mono ?_)
  rintro e w3 ⟨A3, c3, rfl, o3, q5, b4⟩
  have b5 := b3.trans (b4.mono b3.size)
  clear om2 t1 t2 b4
  have r3 := o3.at_
  have c33 := o3.ints.2.2.1
  go_wp2_with fail
  (with_reducible refine (implTurnMatching _ _ _ _ _ r3 q5 c33).mono ?_)
  rintro e w4 ⟨A4, c4, rfl, o4, q6, b6⟩
  have b7 := b5.trans (b6.mono b5.size)
  have z5 := b5.size
  go_wp2
  go_ret2
  exact ⟨_, _, rfl, o4.mono z5 (Nat.le_refl _), q6, b7⟩
set_option maxHeartbeats 1600000 in
theorem specProposeWomen (A : Option Addr) (n c : Nat) (xss : List (List Int)) (B : Option Addr) (m d : Nat) (yss : List (List Int)) (w : World) (h : RowsAt w A n xss) (hn : n ≤ 1048576) (hx : ∀ xs ∈ xss, xs.length ≤ 1048576)
    (g : RowsAt w B m yss) (hm : m ≤ 1048576) (hy : ∀ xs ∈ yss, xs.length ≤ 1048576) :
    Calls Try.prog 25 #[.agg #[.slice A n c, .slice B m d]] w fun e w' => ∃ A' c', e = .returned (.tuple #[.slice A' (propWList xss yss).length c', .int .i64 (propWCnt xss yss)]) ∧ OwnI w' w.heap.size w'.heap.size (.slice A' (propWList xss yss).length c') (propWList xss yss) ∧ (propWList xss yss).length ≤ 1048576 ∧ Below w.heap.size w w' := by
  have hbd := turn_bd hx hy (by have := h.len; omega) (by have := g.len; omega)
  have q1 := hbd.1
  have Q2 := Lib.hid hbd.2.1
  have q3 := hbd.2.2.1
  have Q4 := Lib.hid hbd.2.2.2
  have HX := Lib.hid hx
  have HY := Lib.hid hy
  have hall := pair_below w (.slice A n c) (.slice B m d) 26
  have hK := MktAt.new (c := c) (d := d) h g 26
  have x0 := hK.c0
  have x1 := hK.c1
  clear hx hy hbd
  cases h1 : marketOk xss yss
  · have E := Lib.hid (propW_no h1)
    rw [E.out.1, E.out.2]
    go_enter Try.func25, Try.ntmps25
    go_wp2_with fail
    generalize w.alloc (.cells #[.slice A n c, .slice B m d] 26) = w0 at *
    (with_reducible refine (specTurnMarket _ _ _ _ _ _ _ _ _ hK.men hn HX.out hK.women hm HY.out).mono ?_)
    rintro e w1 ⟨A1, c1, B1, d1, rfl, om, b1⟩
    rw [h1]
    have b2 := pair_below w1 (.slice A1 (turnMen xss yss).length c1) (.slice B1 (turnWom xss yss).length d1) 26
    have h3 := b1.size
    have b3 := hall.trans ((b1.trans (b2.mono h3)).mono hall.size)
    clear om b1 b2 h1
    go_wp2
    go_ret2
    exact ⟨none, 0, rfl, OwnI.nil _ _ _, by simp, b3⟩
  go_enter Try.func25, Try.ntmps25
  go_wp2_with fail
  generalize w.alloc (.cells #[.slice A n c, .slice B m d] 26) = w0 at *
  (with_reducible refine (specTurnMarket _ _ _ _ _ _ _ _ _ hK.men hn HX.out hK.women hm HY.out).mono ?_)
  rintro e w1 ⟨A1, c1, B1, d1, rfl, om, b1⟩
  rw [h1]
  have b2 := pair_below w1 (.slice A1 (turnMen xss yss).length c1) (.slice B1 (turnWom xss yss).length d1) 26
  have om2 := om.belowW b2
  have h3 := b1.size
  have b3 := hall.trans ((b1.trans (b2.mono h3)).mono hall.size)
  have t0 := new_pair w1 (.slice A1 (turnMen xss yss).length c1) (.slice B1 (turnWom xss yss).length d1) 26 rfl
  have t1 := t0.1
  have t2 := t0.2
  clear om b1 b2 t0
  go_wp2_with fail
  generalize w1.alloc (.cells #[.slice A1 (turnMen xss yss).length c1, .slice B1 (turnWom xss yss).length d1] 26) = w2 at *
  (with_reducible refine (specProposeMen A1 _ c1 (turnMen xss yss) B1 _ d1 (turnWom xss yss) _ om2.men q1 Q2.out om2.women q3 Q4.out).mono ?_)
  rintro e w3 ⟨A3, c3, rfl, o3, q5, b4⟩
  have b5 := b3.trans (b4.mono b3.size)
  clear om2 t1 t2 b4
  have r3 := o3.at_
  have c33 := o3.ints.2.2.1
  go_wp2_with fail
  (with_reducible refine (specTurnMatching _ _ _ _ _ r3 q5 c33).mono ?_)
  rintro e w4 ⟨A4, c4, rfl, o4, q6, b6⟩
  have b7 := b5.trans (b6.mono b5.size)
  have z5 := b5.size
  go_wp2
  go_ret2
  exact ⟨_, _, rfl, o4.mono z5 (Nat.le_refl _), q6, b7⟩
end Go.Proofs.Ytbhkpingpipdpaa
