/- What a search for roundings may turn, and what it tells each round: no program is walked here. -/
import Derived.Test.YtefppihanblhmaaRoundP
import Derived.Test.YtefppihanblhmaaRFC
import Derived.Test.YtefppihanblhmaaPair
import Derived.OwnWalkIn
import Derived.TacticsInMore
namespace Go.Proofs.Ytefppihanblhmaa
set_option linter.unusedVariables false
open Go.RowKit

/-- what was there is as it was, but for block k0 and blocks from lo on, below hi -/
structure KeepF (k0 lo hi : Nat) (w w' : World) : Prop where
  os : w'.os = w.os
  tape : w'.tape = w.tape
  output : w'.output = w.output
  size : w.heap.size ≤ w'.heap.size
  block : ∀ k, k < w.heap.size → k ≠ k0 → ¬ (lo ≤ k ∧ k < hi) → w'.heap[k]? = w.heap[k]?
section
variable {k0 lo hi : Nat} {w w' w'' : World}
theorem KeepF.refl (w : World) : KeepF k0 lo hi w w := ⟨rfl, rfl, rfl, Nat.le_refl _, fun _ _ _ _ => rfl⟩
theorem KeepF.trans (h : KeepF k0 lo hi w w') (g : KeepF k0 lo hi w' w'') : KeepF k0 lo hi w w'' :=
  ⟨g.os.trans h.os, g.tape.trans h.tape, g.output.trans h.output, Nat.le_trans h.size g.size, fun k a b c => (g.block k (Nat.lt_of_lt_of_le a h.size) b c).trans (h.block k a b c)⟩
theorem KeepF.of_grown (h : w.grownBy w' (some k0)) : KeepF k0 lo hi w w' := ⟨h.os, h.tape, h.output, h.size, fun k a b _ => h.block k a (fun e => b (Option.some.inj e))⟩
theorem KeepF.of_below (h : Below w.heap.size w w') : KeepF k0 lo hi w w' := ⟨h.os, h.tape, h.output, h.size, fun k a _ _ => h.block k a⟩
theorem KeepF.of_only {b d : Nat} (h : Only b d w w') (h1 : lo ≤ b) (h2 : d ≤ hi) : KeepF k0 lo hi w w' := ⟨h.os, h.tape, h.output, h.size, fun k a _ c => h.block k a (by omega)⟩
theorem KeepF.cell {p : Addr} {u : Value} (h : KeepF k0 lo hi w w') (hc : w.cell? p = some u) (h1 : p.block ≠ k0) (h2 : ¬ (lo ≤ p.block ∧ p.block < hi)) : w'.cell? p = some u :=
  (World.cell?_of_block (h.block _ (World.block_lt_of_cell? w _ hc) h1 h2)).trans hc
theorem KeepF.toBelow {B : Nat} (h : KeepF k0 lo hi w w') (h1 : B ≤ k0) (h2 : B ≤ lo) (h3 : B ≤ w.heap.size) : Below B w w' := ⟨h.os, h.tape, h.output, h.size, fun k a => h.block k (by omega) (by omega) (by omega)⟩
end
/-- the boxes of the search, and its numbers -/
structure FillB where
  c : Nat
  r : Nat
  A : Option Addr
  cA : Nat
  gR : Nat
  cR : Nat
  bw : Nat
  bt : Nat
  br : Nat
  bY : Nat
  bf : Nat
  l : Nat
  k0 : Nat
  lo : Nat
  hi : Nat
def FillB.caps (b : FillB) : Array Value := #[.pointer (some ⟨b.bw, 0, none⟩), .pointer (some ⟨b.bt, 0, none⟩), .pointer (some ⟨b.br, 0, none⟩), .pointer (some ⟨b.bY, 0, none⟩), .pointer (some ⟨b.bf, 0, none⟩)]
def FillB.out (b : FillB) (k : Nat) : Prop := k ≠ b.k0 ∧ ¬ (b.lo ≤ k ∧ k < b.hi)
structure FillAt (t : List (List Int)) (w0 : World) (b : FillB) (W : World) (M : List Int) : Prop where
  below : Below w0.heap.size w0 W
  cw : W.cell? ⟨b.bw, 0, none⟩ = some (.int .i64 (b.c : Int))
  ct : W.cell? ⟨b.bt, 0, none⟩ = some (.slice b.A b.r b.cA)
  cr : W.cell? ⟨b.br, 0, none⟩ = some (.slice (some ⟨b.gR, 0, none⟩) b.r b.cR)
  cy : W.cell? ⟨b.bY, 0, none⟩ = some (.func (.yield b.l) #[] #[])
  cf : W.cell? ⟨b.bf, 0, none⟩ = some (.func (.func 31) #[] #[.pointer (some ⟨b.bw, 0, none⟩), .pointer (some ⟨b.bt, 0, none⟩), .pointer (some ⟨b.br, 0, none⟩), .pointer (some ⟨b.bY, 0, none⟩), .pointer (some ⟨b.bf, 0, none⟩)])
  own : OwnR W b.lo b.hi (.slice (some ⟨b.gR, 0, none⟩) b.r b.cR) (rowsF b.c M b.r)
  ml : M.length = b.r * b.c
  mb : ∀ x ∈ M, 0 ≤ x ∧ x ≤ 2000
  hw : b.hi ≤ W.heap.size
structure FillC (t : List (List Int)) (w0 : World) (b : FillB) : Prop where
  tab : TabF t b.c b.r
  rows : RowsAt w0 b.A b.r t
  ow : b.out b.bw
  ot : b.out b.bt
  or : b.out b.br
  oy : b.out b.bY
  of : b.out b.bf
  k1 : w0.heap.size ≤ b.k0
  l1 : w0.heap.size ≤ b.lo
  k2 : b.k0 < b.lo
  lh : b.lo ≤ b.hi
theorem FillAt.keep {t : List (List Int)} {w0 : World} {b : FillB} {W W' : World} {M M' : List Int} (C : FillC t w0 b) (h : FillAt t w0 b W M) (hk : KeepF b.k0 b.lo b.hi W W')
    (ho : OwnR W' b.lo b.hi (.slice (some ⟨b.gR, 0, none⟩) b.r b.cR) (rowsF b.c M' b.r)) (hl : M'.length = b.r * b.c) (hm : ∀ x ∈ M', 0 ≤ x ∧ x ≤ 2000) : FillAt t w0 b W' M' :=
  ⟨h.below.trans (hk.toBelow C.k1 C.l1 h.below.size), hk.cell h.cw C.ow.1 C.ow.2, hk.cell h.ct C.ot.1 C.ot.2, hk.cell h.cr C.or.1 C.or.2, hk.cell h.cy C.oy.1 C.oy.2, hk.cell h.cf C.of.1 C.of.2, ho, hl, hm, Nat.le_trans h.hw hk.size⟩
theorem FillAt.later {t : List (List Int)} {w0 : World} {b : FillB} {W W' : World} {M : List Int} (h : FillAt t w0 b W M) (hb : Below W.heap.size W W') : FillAt t w0 b W' M :=
  ⟨h.below.trans (hb.mono h.below.size), cell_carry hb h.cw, cell_carry hb h.ct, cell_carry hb h.cr, cell_carry hb h.cy, cell_carry hb h.cf, h.own.belowW hb, h.ml, h.mb, Nat.le_trans h.hw hb.size⟩
theorem FillAt.grown {t : List (List Int)} {w0 : World} {b : FillB} {W W' : World} {M : List Int} (C : FillC t w0 b) (h : FillAt t w0 b W M) (hg : W.grownBy W' (some b.k0)) : FillAt t w0 b W' M :=
  h.keep C (KeepF.of_grown hg) (h.own.keep fun k h1 h2 hs => hg.block k hs (fun e => by have := C.k2; cases e; omega)) h.ml h.mb
/-- what a round is told: the slice that it is handed holds the rows of the numbers m -/
def toldF (c r : Nat) (x : Value × List Int) (W : World) : Prop := ∃ A d, x.1 = .slice A r d ∧ RowsAt W A r (rowsF c x.2 r)
theorem FillAt.told {t : List (List Int)} {w0 : World} {b : FillB} {W : World} {M : List Int} (h : FillAt t w0 b W M) : toldF b.c b.r (.slice (some ⟨b.gR, 0, none⟩) b.r b.cR, M) W :=
  ⟨_, _, rfl, h.own.at_⟩
/-- the numbers with the slice that is handed out -/
def encF (b : FillB) (ms : List (List Int)) : List (Value × List Int) := ms.map fun m => (.slice (some ⟨b.gR, 0, none⟩) b.r b.cR, m)
theorem encF_append (b : FillB) (xs ys : List (List Int)) : encF b (xs ++ ys) = encF b xs ++ encF b ys := by simp [encF]
theorem encF_len (b : FillB) (xs : List (List Int)) : (encF b xs).length = xs.length := by simp [encF]
def fillPost (t : List (List Int)) (w0 : World) (b : FillB) (J Jx : List (Value × List Int) → World → Prop) (W : World) (p : Nat) (l : List Int) (pre : List (Value × List Int)) (ms : List (List Int)) (e : Ending) (W' : World) : Prop :=
  (e = .returned (.bool true) ∧ (∃ M', FillAt t w0 b W' M' ∧ M'.take p = l) ∧ KeepF b.k0 b.lo b.hi W W' ∧ J (pre ++ encF b ms) W') ∨
  (e = .returned (.bool false) ∧ ∃ q, q <+: ms ∧ q ≠ [] ∧ Jx (pre ++ encF b q) W')
theorem rowF_take {c p i : Nat} {M : List Int} (h : (i + 1) * c ≤ p) : rowF c (M.take p) i = rowF c M i := by
  unfold rowF
  rw [Nat.add_mul, Nat.one_mul] at h
  rw [List.drop_take, List.take_take, Nat.min_eq_left (by omega)]
theorem cut_at {t : List (List Int)} {c p i k : Nat} {M : List Int} (hc : 1 ≤ c) (hi : p / c = i) (hk : p % c = k) (hl : p ≤ M.length) :
    cutF t c (M.take p) = (decide (k = 0) && decide (0 < i) && !isRnd (lsum (rx t (i - 1))) (lsum (rowF c M (i - 1)))) := by
  have hpl : (M.take p).length = p := by simp; omega
  have hpe : p = i * c + k := by rw [← hi, ← hk, Nat.mul_comm]; exact (Nat.div_add_mod p c).symm
  unfold cutF
  rw [hpl, hi, hk]
  by_cases h0 : k = 0
  · by_cases h1 : 0 < i
    · have hic : 1 * 1 ≤ i * c := Nat.mul_le_mul h1 hc
      rw [rowF_take (by rw [Nat.sub_add_cancel h1]; omega), h0, decide_eq_true h1, decide_eq_true (show 0 < p by omega)]
      rfl
    · have : i = 0 := by omega
      subst this
      rw [decide_eq_false (show ¬ 0 < p by omega), decide_eq_false h1]; simp
  · rw [decide_eq_false h0]
    have : (k == 0) = false := by rw [beq_eq_false_iff_ne]; exact h0
    rw [this]; rfl
theorem OwnI.tightH {w : World} {lo hi n g c : Nat} {xs : List Int} (h : OwnI w lo hi (.slice (some ⟨g, 0, none⟩) n c) xs) : OwnI w g (g + 1) (.slice (some ⟨g, 0, none⟩) n c) xs := h.tight
/-- what has come behind j of the two numbers -/
def partF (x : Int) (P1 P2 : List (List Int)) (j : Nat) : List (List Int) := if j = 0 then [] else if j = 1 then P1 else P1 ++ (if x % 10 = 0 then [] else P2)
/-- all that comes -/
def allF (x : Int) (P1 P2 : List (List Int)) : List (List Int) := P1 ++ (if x % 10 = 0 then [] else P2)
theorem partF_2 (x : Int) (P1 P2 : List (List Int)) : partF x P1 P2 2 = allF x P1 P2 := rfl
theorem fill_parts {x lw y : Int} {j : Nat} {P1 P2 PC PA PB : List (List Int)} (hj : j = 0 ∨ j = 1) (hy : (if j = 0 then lw else lw + 10) = y)
    (hPA : partF x P1 P2 j = PA) (hPB : partF x P1 P2 (j + 1) = PB)
    (h1 : y = lw → PC = P1) (h2 : y = lw + 10 → PC = P2) (rl : isRnd x lw = true) (rh : isRnd x (lw + 10) = decide (x % 10 ≠ 0)) :
    (isRnd x y = true → PB = PA ++ PC ∧ PB <+: allF x P1 P2) ∧ (isRnd x y = false → PB = PA) := by
  unfold partF at hPA hPB
  unfold allF
  rcases hj with rfl | rfl
  · rw [if_pos rfl] at hy hPA
    rw [if_neg (by omega), if_pos (by omega)] at hPB
    subst hy hPA hPB
    rw [h1 rfl, rl]
    exact ⟨fun _ => ⟨rfl, List.prefix_append _ _⟩, fun h => by cases h⟩
  · rw [if_neg (by omega)] at hy
    rw [if_neg (by omega), if_pos rfl] at hPA
    rw [if_neg (by omega), if_neg (by omega)] at hPB
    subst hy hPA hPB
    rw [h2 rfl, rh]
    refine ⟨fun h => ?_, fun h => ?_⟩
    · have := of_decide_eq_true h
      rw [if_neg this]
      exact ⟨rfl, List.prefix_refl _⟩
    · have h9 := of_decide_eq_false h
      rw [if_pos (by omega)]
      simp
theorem own_row {t : List (List Int)} {w0 : World} {b : FillB} {W : World} {M : List Int} {i : Nat} (C : FillC t w0 b) (S : FillAt t w0 b W M) (hi : i < b.r) :
    W.frozen? ⟨b.gR, i, none⟩ = false ∧ ∃ b5 d5, W.cell? ⟨b.gR, i, none⟩ = some (.slice (some ⟨b5, 0, none⟩) b.c d5) ∧ OwnI W b.lo b.hi (.slice (some ⟨b5, 0, none⟩) b.c d5) (rowF b.c M i) := by
  obtain ⟨h1, A', c', hc, ho⟩ := S.own.row i hi
  rw [rx_rowsF hi] at hc ho
  rw [rowF_len S.ml hi] at hc ho
  obtain ⟨g, rfl, _⟩ := ho.head (by have := C.tab.c1; omega)
  exact ⟨h1, g, c', hc, ho⟩
end Go.Proofs.Ytefppihanblhmaa
