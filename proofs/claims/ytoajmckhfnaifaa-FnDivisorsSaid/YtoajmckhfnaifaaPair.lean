/- A struct of two fields in a block of the call's own. No program is walked here. -/
import Derived.Test.YtoajmckhfnaifaaBase
namespace Go.Proofs.Ytoajmckhfnaifaa
set_option linter.unusedVariables false
open Go.RowKit

theorem new_pair (w : World) (u v : Value) (t : TypeId) {g : Nat} (hg : g = w.heap.size) : (w.alloc (.cells #[u, v] t)).cell? ⟨g, 0, none⟩ = some u ∧ (w.alloc (.cells #[u, v] t)).cell? ⟨g, 1, none⟩ = some v := by
  subst hg
  constructor
  · rw [cell_of_row _ _ 0 #[u, v] t (0, 0) (heap_alloc_new w _)]; rfl
  · rw [cell_of_row _ _ 1 #[u, v] t (0, 0) (heap_alloc_new w _)]; rfl
/-- both fields of a pair are stored anew -/
theorem pair_set {w : World} {g : Nat} {x0 x1 : Value} (h0 : w.cell? ⟨g, 0, none⟩ = some x0) (h1 : w.cell? ⟨g, 1, none⟩ = some x1) (u v : Value) :
    ((w.setCell ⟨g, 0, none⟩ u).setCell ⟨g, 1, none⟩ v).cell? ⟨g, 0, none⟩ = some u ∧ ((w.setCell ⟨g, 0, none⟩ u).setCell ⟨g, 1, none⟩ v).cell? ⟨g, 1, none⟩ = some v := by
  constructor
  · rw [World.cell?_setCell_other _ _ _ _ (by simp), World.cell?_setCell_same _ _ _ h0]
  · exact World.cell?_setCell_same _ _ _ ((World.cell?_setCell_other _ _ _ _ (by simp)).trans h1)
theorem pair_later {w W : World} {u v : Value} {T : TypeId} (hb : Below (w.heap.size + 1) (w.alloc (.cells #[u, v] T)) W) :
    W.cell? ⟨w.heap.size, 0, none⟩ = some u ∧ W.cell? ⟨w.heap.size, 1, none⟩ = some v ∧ W.frozen? ⟨w.heap.size, 0, none⟩ = false ∧ W.frozen? ⟨w.heap.size, 1, none⟩ = false := by
  have p := new_pair w u v T rfl
  exact ⟨(hb.cell (p := ⟨w.heap.size, 0, none⟩) (Nat.lt_succ_self _)).trans p.1, (hb.cell (p := ⟨w.heap.size, 1, none⟩) (Nat.lt_succ_self _)).trans p.2,
    (hb.frozen (p := ⟨w.heap.size, 0, none⟩) (Nat.lt_succ_self _)).trans (new_free w _ _ rfl 0), (hb.frozen (p := ⟨w.heap.size, 1, none⟩) (Nat.lt_succ_self _)).trans (new_free w _ _ rfl 1)⟩

theorem cell_carry {w w' : World} {p : Addr} {u : Value} (b : Below w.heap.size w w') (k : w.cell? p = some u) : w'.cell? p = some u := (b.cell (World.block_lt_of_cell? w _ k)).trans k
theorem pair_carry {w w' : World} {p0 p1 : Addr} {u v : Value} (b : Below w.heap.size w w') (k : w.cell? p0 = some u ∧ w.cell? p1 = some v) : w'.cell? p0 = some u ∧ w'.cell? p1 = some v :=
  ⟨(b.cell (World.block_lt_of_cell? w _ k.1)).trans k.1, (b.cell (World.block_lt_of_cell? w _ k.2)).trans k.2⟩
theorem pair_below (w : World) (u v : Value) (T : TypeId) : Below w.heap.size w (w.alloc (.cells #[u, v] T)) := (Below.refl _ _).alloc (Nat.le_refl _) _
theorem pair_size (w : World) (u v : Value) (T : TypeId) : (w.alloc (.cells #[u, v] T)).heap.size = w.heap.size + 1 := World.size_alloc _ _
theorem new_triple (w : World) (u v x : Value) (t : TypeId) {g : Nat} (hg : g = w.heap.size) : (w.alloc (.cells #[u, v, x] t)).cell? ⟨g, 0, none⟩ = some u ∧ (w.alloc (.cells #[u, v, x] t)).cell? ⟨g, 1, none⟩ = some v ∧ (w.alloc (.cells #[u, v, x] t)).cell? ⟨g, 2, none⟩ = some x := by
  subst hg
  refine ⟨?_, ?_, ?_⟩
  · rw [cell_of_row _ _ 0 #[u, v, x] t (0, 0) (heap_alloc_new w _)]; rfl
  · rw [cell_of_row _ _ 1 #[u, v, x] t (0, 0) (heap_alloc_new w _)]; rfl
  · rw [cell_of_row _ _ 2 #[u, v, x] t (0, 0) (heap_alloc_new w _)]; rfl
theorem triple_below (w : World) (u v x : Value) (T : TypeId) : Below w.heap.size w (w.alloc (.cells #[u, v, x] T)) := (Below.refl _ _).alloc (Nat.le_refl _) _
end Go.Proofs.Ytoajmckhfnaifaa
