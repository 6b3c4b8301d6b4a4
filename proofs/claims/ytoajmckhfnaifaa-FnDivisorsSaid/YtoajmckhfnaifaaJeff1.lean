/- The range of divisors: both sides. -/
import Derived.Test.YtoajmckhfnaifaaJeff0
namespace Go.Proofs.Ytoajmckhfnaifaa
set_option linter.unusedVariables false
open Go.RowKit

/-- two numbers lie in block b -/
structure PairAt (w : World) (b : Nat) (x y : Nat) : Prop where
  c0 : w.cell? ⟨b, 0, none⟩ = some (.int .i64 (x : Int))
  c1 : w.cell? ⟨b, 1, none⟩ = some (.int .i64 (y : Int))
  f0 : w.frozen? ⟨b, 0, none⟩ = false
  f1 : w.frozen? ⟨b, 1, none⟩ = false
theorem PairAt.below {w w' : World} {b B x y : Nat} (h : PairAt w b x y) (hb : Below B w w') (hl : b < B) : PairAt w' b x y :=
  ⟨(hb.cell (p := ⟨b, 0, none⟩) hl).trans h.c0, (hb.cell (p := ⟨b, 1, none⟩) hl).trans h.c1, (hb.frozen (p := ⟨b, 0, none⟩) hl).trans h.f0, (hb.frozen (p := ⟨b, 1, none⟩) hl).trans h.f1⟩
theorem PairAt.lt {w : World} {b x y : Nat} (h : PairAt w b x y) : b < w.heap.size := cell_lt h.c0
theorem PairAt.keep {w w' : World} {b x y : Nat} (h : PairAt w b x y) (hb : Below w.heap.size w w') : PairAt w' b x y := h.below hb h.lt
theorem PairAt.set {w : World} {b x y : Nat} (h : PairAt w b x y) (u v : Nat) : PairAt ((w.setCell ⟨b, 0, none⟩ (.int .i64 (u : Int))).setCell ⟨b, 1, none⟩ (.int .i64 (v : Int))) b u v := by
  obtain ⟨e0, e1⟩ := pair_set h.c0 h.c1 (.int .i64 (u : Int)) (.int .i64 (v : Int))
  exact ⟨e0, e1, by rw [World.frozen?_setCell, World.frozen?_setCell]; exact h.f0, by rw [World.frozen?_setCell, World.frozen?_setCell]; exact h.f1⟩
theorem PairAt.other {w : World} {b d x y : Nat} (h : PairAt w b x y) (hne : d ≠ b) (u v : Value) : PairAt ((w.setCell ⟨d, 0, none⟩ u).setCell ⟨d, 1, none⟩ v) b x y := by
  refine ⟨?_, ?_, ?_, ?_⟩
  · rw [World.cell?_setCell_other _ _ _ _ (by simp <;> omega), World.cell?_setCell_other _ _ _ _ (by simp <;> omega)]; exact h.c0
  · rw [World.cell?_setCell_other _ _ _ _ (by simp <;> omega), World.cell?_setCell_other _ _ _ _ (by simp <;> omega)]; exact h.c1
  · rw [World.frozen?_setCell, World.frozen?_setCell]; exact h.f0
  · rw [World.frozen?_setCell, World.frozen?_setCell]; exact h.f1
theorem PairAt.new (w : World) (x y : Nat) (t : TypeId) {g : Nat} (hg : g = w.heap.size) : PairAt (w.alloc (.cells #[.int .i64 (x : Int), .int .i64 (y : Int)] t)) g x y :=
  ⟨(new_pair w _ _ t hg).1, (new_pair w _ _ t hg).2, new_free w _ _ hg 0, new_free w _ _ hg 1⟩
theorem PairAt.alloc {w : World} {b x y : Nat} (h : PairAt w b x y) (o : Obj) : PairAt (w.alloc o) b x y := h.keep ((Below.refl _ _).alloc (Nat.le_refl _) _)

def jOn (xs : List Int) (k : Int) : Bool := seatsAskedB 5 xs k && decide (k ≠ 0)
def jFin (xs : List Int) (k : Int) : JRng := jTo xs (seatsBy 5 xs k) xs.length
def jLess (s : JRng) : Bool := lessF s.lt s.lb s.ht s.hb
def jGot (xs : List Int) (k : Int) : Bool := jOn xs k && jLess (jFin xs k)
def jLt (xs : List Int) (k : Int) : Nat := if jGot xs k then (jFin xs k).lt else 0
def jLb (xs : List Int) (k : Int) : Nat := if jGot xs k then (jFin xs k).lb else 0
def jHt (xs : List Int) (k : Int) : Nat := if jGot xs k then (jFin xs k).ht else 0
def jHb (xs : List Int) (k : Int) : Nat := if jGot xs k then (jFin xs k).hb else 0
theorem jNo {xs : List Int} {k : Int} (h : jGot xs k = false) : jLt xs k = 0 ∧ jLb xs k = 0 ∧ jHt xs k = 0 ∧ jHb xs k = 0 := by
  unfold jLt jLb jHt jHb; rw [h]; exact ⟨rfl, rfl, rfl, rfl⟩
theorem jYes {xs : List Int} {k : Int} (h : jGot xs k = true) : jLt xs k = (jFin xs k).lt ∧ jLb xs k = (jFin xs k).lb ∧ jHt xs k = (jFin xs k).ht ∧ jHb xs k = (jFin xs k).hb := by
  unfold jLt jLb jHt jHb; rw [h]; exact ⟨rfl, rfl, rfl, rfl⟩
theorem jLow_yes {s : JRng} {x q : Nat} (h : lessF s.lt s.lb (redTop x (q + 1)) (redBot x (q + 1)) = true) : jLow s x q = ⟨redTop x (q + 1), redBot x (q + 1), s.ht, s.hb⟩ := by unfold jLow; rw [if_pos h]
theorem jLow_no {s : JRng} {x q : Nat} (h : lessF s.lt s.lb (redTop x (q + 1)) (redBot x (q + 1)) = false) : jLow s x q = s := by unfold jLow; rw [if_neg (by rw [h]; simp)]
theorem jHigh_zero {s : JRng} {x q : Nat} (h : q = 0) : jHigh s x q = s := by unfold jHigh; rw [if_neg (by omega)]
theorem jHigh_yes {s : JRng} {x q : Nat} (h0 : q ≠ 0) (h : lessF (redTop x q) (redBot x q) s.ht s.hb = true) : jHigh s x q = ⟨s.lt, s.lb, redTop x q, redBot x q⟩ := by unfold jHigh; rw [if_pos ⟨h0, h⟩]
theorem jHigh_no {s : JRng} {x q : Nat} (h : lessF (redTop x q) (redBot x q) s.ht s.hb = false) : jHigh s x q = s := by unfold jHigh; rw [if_neg (by rw [h]; simp)]
structure JF (xs ys : List Int) : Prop where
  n1 : 1 ≤ xs.length
  n6 : xs.length ≤ 6
  xb : ∀ i, i < xs.length → 0 ≤ ix xs i ∧ ix xs i ≤ 1000000
  yl : ys.length = xs.length
  yb : ∀ i, i < xs.length → 0 ≤ ix ys i ∧ ix ys i ≤ 100
theorem j_facts {xs : List Int} {k : Int} (h : seatsAskedB 5 xs k = true) : JF xs (seatsBy 5 xs k) := by
  obtain ⟨m1, m5, k0, k1, n1, n6, hx⟩ := asked_facts h
  obtain ⟨hol, hob⟩ := seatOrder_bd h
  have hb := cntTo_bd (n := xs.length) (os := seatOrder 5 xs k) (seatOrder 5 xs k).length hob
  refine ⟨n1, n6, fun i hi => hx _ (ix_mem hi), ?_, ?_⟩
  · rw [seatsBy_yes h, cntTo_len]
  · intro i hi
    rw [seatsBy_yes h]
    have := hb i hi
    omega
theorem JF.good {xs ys : List Int} (F : JF xs ys) : ∀ i, i ≤ xs.length → JGood (jTo xs ys i)
  | 0, _ => jGood_start
  | i + 1, h => by
    have := F.xb i (by omega)
    have := F.yb i (by omega)
    exact jGood_high (jGood_low (F.good i (by omega)) (by omega) (by omega)) (by omega) (by omega)
theorem two_set {w1 : World} {g x y x' y' : Nat} (P0 : PairAt w1 g x y) (P1 : PairAt w1 (g + 1) x' y') (a b c d : Int) :
    ((((w1.setCell ⟨g, 0, none⟩ (.int .i64 a)).setCell ⟨g, 1, none⟩ (.int .i64 b)).setCell ⟨g + 1, 0, none⟩ (.int .i64 c)).setCell ⟨g + 1, 1, none⟩ (.int .i64 d)).cell? ⟨g, 0, none⟩ = some (.int .i64 a) ∧
    ((((w1.setCell ⟨g, 0, none⟩ (.int .i64 a)).setCell ⟨g, 1, none⟩ (.int .i64 b)).setCell ⟨g + 1, 0, none⟩ (.int .i64 c)).setCell ⟨g + 1, 1, none⟩ (.int .i64 d)).cell? ⟨g, 1, none⟩ = some (.int .i64 b) ∧
    ((((w1.setCell ⟨g, 0, none⟩ (.int .i64 a)).setCell ⟨g, 1, none⟩ (.int .i64 b)).setCell ⟨g + 1, 0, none⟩ (.int .i64 c)).setCell ⟨g + 1, 1, none⟩ (.int .i64 d)).cell? ⟨g + 1, 0, none⟩ = some (.int .i64 c) ∧
    ((((w1.setCell ⟨g, 0, none⟩ (.int .i64 a)).setCell ⟨g, 1, none⟩ (.int .i64 b)).setCell ⟨g + 1, 0, none⟩ (.int .i64 c)).setCell ⟨g + 1, 1, none⟩ (.int .i64 d)).cell? ⟨g + 1, 1, none⟩ = some (.int .i64 d) := by
  obtain ⟨e0, e1⟩ := pair_set P0.c0 P0.c1 (.int .i64 a) (.int .i64 b)
  have Q1 := P1.other (d := g) (by omega) (.int .i64 a) (.int .i64 b)
  obtain ⟨e2, e3⟩ := pair_set Q1.c0 Q1.c1 (.int .i64 c) (.int .i64 d)
  refine ⟨?_, ?_, e2, e3⟩
  · rw [World.cell?_setCell_other _ _ _ _ (by simp), World.cell?_setCell_other _ _ _ _ (by simp)]; exact e0
  · rw [World.cell?_setCell_other _ _ _ _ (by simp), World.cell?_setCell_other _ _ _ _ (by simp)]; exact e1
theorem two_set_other {w1 : World} {g x y x' y' : Nat} (P0 : PairAt w1 g x y) (P1 : PairAt w1 (g + 1) x' y') (a b c d : Int) :
    ((((w1.setCell ⟨g + 1, 0, none⟩ (.int .i64 c)).setCell ⟨g + 1, 1, none⟩ (.int .i64 d)).setCell ⟨g, 0, none⟩ (.int .i64 a)).setCell ⟨g, 1, none⟩ (.int .i64 b)).cell? ⟨g, 0, none⟩ = some (.int .i64 a) ∧
    ((((w1.setCell ⟨g + 1, 0, none⟩ (.int .i64 c)).setCell ⟨g + 1, 1, none⟩ (.int .i64 d)).setCell ⟨g, 0, none⟩ (.int .i64 a)).setCell ⟨g, 1, none⟩ (.int .i64 b)).cell? ⟨g, 1, none⟩ = some (.int .i64 b) ∧
    ((((w1.setCell ⟨g + 1, 0, none⟩ (.int .i64 c)).setCell ⟨g + 1, 1, none⟩ (.int .i64 d)).setCell ⟨g, 0, none⟩ (.int .i64 a)).setCell ⟨g, 1, none⟩ (.int .i64 b)).cell? ⟨g + 1, 0, none⟩ = some (.int .i64 c) ∧
    ((((w1.setCell ⟨g + 1, 0, none⟩ (.int .i64 c)).setCell ⟨g + 1, 1, none⟩ (.int .i64 d)).setCell ⟨g, 0, none⟩ (.int .i64 a)).setCell ⟨g, 1, none⟩ (.int .i64 b)).cell? ⟨g + 1, 1, none⟩ = some (.int .i64 d) := by
  obtain ⟨e0, e1⟩ := pair_set P1.c0 P1.c1 (.int .i64 c) (.int .i64 d)
  have Q1 := P0.other (d := g + 1) (by omega) (.int .i64 c) (.int .i64 d)
  obtain ⟨e2, e3⟩ := pair_set Q1.c0 Q1.c1 (.int .i64 a) (.int .i64 b)
  refine ⟨e2, e3, ?_, ?_⟩
  · rw [World.cell?_setCell_other _ _ _ _ (by simp), World.cell?_setCell_other _ _ _ _ (by simp)]; exact e0
  · rw [World.cell?_setCell_other _ _ _ _ (by simp), World.cell?_setCell_other _ _ _ _ (by simp)]; exact e1
theorem two_new (w : World) (a b c d : Nat) (T : TypeId) :
    PairAt ((w.alloc (.cells #[.int .i64 a, .int .i64 b] T)).alloc (.cells #[.int .i64 c, .int .i64 d] T)) w.heap.size a b ∧
    PairAt ((w.alloc (.cells #[.int .i64 a, .int .i64 b] T)).alloc (.cells #[.int .i64 c, .int .i64 d] T)) (w.heap.size + 1) c d ∧
    Below w.heap.size w ((w.alloc (.cells #[.int .i64 a, .int .i64 b] T)).alloc (.cells #[.int .i64 c, .int .i64 d] T)) ∧
    ((w.alloc (.cells #[.int .i64 a, .int .i64 b] T)).alloc (.cells #[.int .i64 c, .int .i64 d] T)).heap.size = w.heap.size + 2 := by
  have P0 := PairAt.new w a b T rfl
  have P1 := PairAt.new (w.alloc (.cells #[.int .i64 a, .int .i64 b] T)) c d T (g := w.heap.size + 1) (by simp)
  exact ⟨P0.alloc _, P1, ((Below.refl _ _).alloc (Nat.le_refl _) _).alloc (by simp) _, by simp⟩
/-- a new struct is made -/
theorem one_new (w : World) (a b : Nat) (T : TypeId) :
    PairAt (w.alloc (.cells #[.int .i64 a, .int .i64 b] T)) w.heap.size a b ∧ Below w.heap.size w (w.alloc (.cells #[.int .i64 a, .int .i64 b] T)) :=
  ⟨PairAt.new w a b T rfl, (Below.refl _ _).alloc (Nat.le_refl _) _⟩
end Go.Proofs.Ytoajmckhfnaifaa
