/- The reference's search for roundings: the end, where the table is full. -/
import Derived.Test.YtefppihanblhmaaRoundP
import Derived.Test.YtefppihanblhmaaIsRnd
import Derived.Test.YtefppihanblhmaaHdrAp
import Derived.Test.YtefppihanblhmaaPair
import Derived.Deep.DeepCutAuto
namespace Go.Proofs.Ytefppihanblhmaa
set_option linter.unusedVariables false
open Go.RowKit

def hdrF (b o c d k : Nat) : List Value := (List.range k).map fun i => Value.slice (some ⟨b, o + i * c, none⟩) c (d - i * c)
theorem hdrF_succ (b o c d k : Nat) : hdrF b o c d k ++ [Value.slice (some ⟨b, o + k * c, none⟩) c (d - k * c)] = hdrF b o c d (k + 1) := by
  unfold hdrF; rw [List.range_succ, List.map_append]; rfl
theorem ix_rowF {c j q : Nat} {l : List Int} (hq : q < c) : ix (rowF c l j) q = ix l (j * c + q) := by
  unfold ix rowF; simp [List.getD, List.getElem?_take, List.getElem?_drop, hq]
theorem rowF_at {w : World} {b o r c j : Nat} {l : List Int} (hi : IntsAt w (some ⟨b, o, none⟩) (r * c) l) (hj : j < r) : IntsAt w (some ⟨b, o + j * c, none⟩) c (rowF c l j) := by
  refine ⟨rowF_len hi.1 hj, fun _ => ⟨b, o + j * c, rfl, fun q hq => ?_⟩⟩
  have h1 : (j + 1) * c ≤ r * c := Nat.mul_le_mul_right c (by omega)
  rw [Nat.add_mul, Nat.one_mul] at h1
  obtain ⟨b', o', e, _, hc⟩ := hi.at_ (k := j * c + q) (by omega)
  cases e
  rw [ix_rowF hq, Nat.add_assoc]
  exact hc _ (by omega)
theorem rows_of_hdr {w : World} {lo b o r c d c' : Nat} {A : Option Addr} {l : List Int} (h : w.ownsRow lo 32 1 (.slice A r c') r (hdrF b o c d r)) (hi : IntsAt w (some ⟨b, o, none⟩) (r * c) l) (hd : r * c ≤ d) (hr : 1 ≤ r) :
    RowsAt w A r (rowsF c l r) := by
  refine ⟨rowsF_len _ _ _, fun _ => ?_⟩
  rcases h.2 with ⟨e, h0⟩ | ⟨g, cap, cur, e, _⟩
  · omega
  · cases e
    refine ⟨g, 0, rfl, fun j hj => ⟨some ⟨b, o + j * c, none⟩, c, d - j * c, ?_, ?_, ?_⟩⟩
    · have := World.ownsRow.cellAt h j (by omega)
      rw [Nat.zero_add, this]
      simp [hdrF, hj]
    · have h1 : (j + 1) * c ≤ r * c := Nat.mul_le_mul_right c (by omega)
      rw [Nat.add_mul, Nat.one_mul] at h1
      omega
    · have := rx_rowsF (c := c) (l := l) hj
      unfold rx at this
      rw [this]
      exact rowF_at hi hj
/-- the first rounding, as the search hands it back -/
def firstF (c r : Nat) (P : List (List Int)) (v : Value) (W : World) : Prop := match P with
  | [] => v = .slice none 0 0
  | m :: _ => ∃ A d, v = .slice A r d ∧ r ≤ d ∧ RowsAt W A r (rowsF c m r)
theorem firstF.below {c r : Nat} {P : List (List Int)} {v : Value} {W W' : World} (h : firstF c r P v W) (hb : Below W.heap.size W W') : firstF c r P v W' := by
  cases P with
  | nil => exact h
  | cons m P =>
    obtain ⟨A, d, e, h1, h2⟩ := h
    exact ⟨A, d, e, h1, h2.below hb⟩
theorem tab_small' {t : List (List Int)} {c r : Nat} (F : TabF t c r) : ∀ xs ∈ t, xs.length ≤ 1048576 := fun xs hxs => by
  obtain ⟨q, hq, rfl⟩ := List.getElem_of_mem hxs
  have := (F.row q (by rw [← F.rl]; exact hq)).1
  have c4 := F.c4
  rw [rx_lt hq] at this
  omega
theorem rowsF_small (c r : Nat) (l : List Int) (hc : c ≤ 4) : ∀ xs ∈ rowsF c l r, xs.length ≤ 1048576 := fun xs hxs => by
  simp only [rowsF, List.mem_map] at hxs
  obtain ⟨q, _, rfl⟩ := hxs
  unfold rowF
  rw [List.length_take]; omega
end Go.Proofs.Ytefppihanblhmaa
