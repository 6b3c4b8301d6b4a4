/- A row of bools of the call's own. No program is walked here. -/
import Derived.Test.YtnoanomihifobaaDoorBase
namespace Go.Proofs.YtnoanomihifobaaDoor
set_option linter.unusedVariables false
open Go.RowKit

theorem infoB : (Tryd.prog.info? 4).map (fun i => (i.zero, i.size, i.bytes)) = some (some (.bool false), 1, 1) := by kernel_rfl

def bx (bs : List Bool) (j : Nat) : Bool := bs.getD j false
theorem bx_lt {bs : List Bool} {j : Nat} (h : j < bs.length) : bx bs j = bs[j] := by unfold bx; simp [List.getD, h]
/-- the slice value v is a row of bools of the call's own -/
def OwnB (w : World) (lo hi : Nat) (v : Value) (bs : List Bool) : Prop := w.ownsRow lo 4 1 v bs.length (bs.map Value.bool) ∧ ∀ k, v.ownBlock = some k → k < hi

section
variable {w w' : World} {n : Nat} {bs : List Bool} {v : Value} {lo hi B : Nat}
theorem OwnB.keep (h : OwnB w lo hi v bs) (hf : ∀ k, lo ≤ k → k < hi → k < w.heap.size → w'.heap[k]? = w.heap[k]?) : OwnB w' lo hi v bs := by
  refine ⟨⟨h.1.1, ?_⟩, h.2⟩
  rcases h.1.2 with h0 | ⟨g, cap, cur, hv, hgb, hg, r⟩
  · exact .inl h0
  · exact .inr ⟨g, cap, cur, hv, hgb, by rw [hf g hgb (h.2 g (by rw [hv]; rfl)) (Array.getElem?_eq_some_iff.1 hg).1]; exact hg, r⟩
theorem OwnB.below (h : OwnB w lo hi v bs) (hb : Below w.heap.size w w') : OwnB w' lo hi v bs := h.keep fun k _ _ hs => hb.block k hs
theorem OwnB.only {l2 h2 : Nat} (h : OwnB w lo hi v bs) (ho : Only l2 h2 w w') (hd : hi ≤ l2 ∨ h2 ≤ lo) : OwnB w' lo hi v bs := h.keep fun k h1 h2 hs => ho.block k hs (by omega)
theorem OwnB.alloc (h : OwnB w lo hi v bs) (o : Obj) : OwnB (w.alloc o) lo hi v bs := ⟨World.ownsRow.alloc h.1 o, h.2⟩
theorem OwnB.drewN (h : OwnB w lo hi v bs) (m : Nat) : OwnB (w.drewN m) lo hi v bs := h
theorem OwnB.num {g c : Nat} (h : OwnB w lo hi (.slice (some ⟨g, 0, none⟩) n c) bs) : bs.length = n ∧ g < w.heap.size ∧ lo ≤ g ∧ g < hi := by
  rcases h.1.2 with ⟨h0, _⟩ | ⟨g', cap, cur, hv, hgb, hg, r⟩
  · cases h0
  · cases hv
    exact ⟨rfl, (Array.getElem?_eq_some_iff.1 hg).1, hgb, h.2 g rfl⟩
theorem OwnB.cellAt {g c : Nat} (h : OwnB w lo hi (.slice (some ⟨g, 0, none⟩) n c) bs) (j : Nat) (hj : j < n) : w.cell? ⟨g, j, none⟩ = some (.bool (bx bs j)) := by
  obtain ⟨rfl, _⟩ := h.num
  have := World.ownsRow.cellAt h.1 j (by omega)
  rw [this]
  simp [hj, bx_lt hj]
theorem OwnB.frozenAt {g c : Nat} (h : OwnB w lo hi (.slice (some ⟨g, 0, none⟩) n c) bs) (j : Nat) : w.frozen? ⟨g, j, none⟩ = false := by
  obtain ⟨rfl, _⟩ := h.num
  exact World.ownsRow.frozenAt h.1 j
theorem OwnB.stored {g c : Nat} (h : OwnB w lo hi (.slice (some ⟨g, 0, none⟩) n c) bs) (j : Nat) (x : Bool) :
    OwnB (w.setCell ⟨g, j, none⟩ (.bool x)) lo hi (.slice (some ⟨g, 0, none⟩) n c) (bs.set j x) ∧ Only g (g + 1) w (w.setCell ⟨g, j, none⟩ (.bool x)) := by
  obtain ⟨rfl, _⟩ := h.num
  have h1 := World.ownsRow.stored h.1 j (.bool x)
  refine ⟨⟨?_, h.2⟩, Only.of_grown h1.2 fun k e => by cases e; omega⟩
  rw [List.length_set, List.map_set]
  exact h1.1
end

section
variable {ops : Array Oper} {rest : List Oper} {o : Oper} {a : Act} {Q : Exit → Act → World → Prop}
/-- 'make([]bool, n)' -/
theorem wpList_make_bools (w : World) (hg : o.guard = none) (l c : Operand) (hop : o.op = Op.makeSlice 57 l c) (n : Nat)
    (hl : a.eval l = .int .i64 (n : Int)) (hc : a.eval c = .int .i64 (n : Int)) (hn : n ≤ 1099511627776)
    (hK : ∀ w', OwnB w' w.heap.size (w.heap.size + 1) (.slice (some ⟨w.heap.size, 0, none⟩) n n) (List.replicate n false) → Below w.heap.size w w' → w'.heap.size = w.heap.size + 1 → wpList Tryd.prog ops Q rest (a.put o.dst (.slice (some ⟨w.heap.size, 0, none⟩) n n)) w') :
    wpList Tryd.prog ops Q (o :: rest) a w := by
  obtain ⟨i0, hi, hz0, hz1, hz2⟩ := info_parts infoB
  refine wpList_plain hg fun K hK' => ?_
  have hrun := run_make (P := Tryd.prog) w 57 4 i0 (.bool false) Tryd.underlying57 hi hz0 .i64 .i64 n n (by omega) (by omega) (by rw [hz2]; omega) (by omega)
  simp only [Int.toNat_natCast, hz1, Nat.mul_one] at hrun
  unfold Oper.wp
  simp [execOp, hop, hl, hc, hrun, Result.andThen]
  refine hK' _ _ (hK _ ⟨?_, fun k e => by simp [Value.ownBlock] at e; omega⟩ ((Below.refl _ _).alloc (Nat.le_refl _) _) (by simp))
  have h1 := World.ownsRow_lit (e := 4) (size := 1) (base := w.heap.size) w (madeCells #[Value.bool false] n) n (Nat.le_refl _) (by unfold maxLen; omega) (by simp [size_madeCells])
  rw [toList_madeCells_one] at h1
  simpa [Value.cells] using h1
end
end Go.Proofs.YtnoanomihifobaaDoor
