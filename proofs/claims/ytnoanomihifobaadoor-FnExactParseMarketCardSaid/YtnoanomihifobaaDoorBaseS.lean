/- Rows of strings. No program is walked here. -/
import Derived.Test.YtnoanomihifobaaDoorBaseR
import Derived.Laws.BytesArg
namespace Go.Proofs.YtnoanomihifobaaDoor
set_option linter.unusedVariables false
open Go.RowKit

theorem infoS : (Tryd.prog.info? 9).map (fun i => (i.zero, i.size, i.bytes)) = some (some (.string ⟨#[]⟩), 1, 16) := by kernel_rfl
def sx (ts : List ByteArray) (j : Nat) : ByteArray := ts.getD j ⟨#[]⟩
theorem sx_lt {ts : List ByteArray} {j : Nat} (h : j < ts.length) : sx ts j = ts[j] := by unfold sx; simp [List.getD, h]
/-- the strings ts lie at A -/
def StrsAt (w : World) (A : Option Addr) (n : Nat) (ts : List ByteArray) : Prop := ts.length = n ∧ (0 < n → ∃ b o, A = some ⟨b, o, none⟩ ∧ ∀ j, j < n → w.cell? ⟨b, o + j, none⟩ = some (.string (sx ts j)))
/-- a row of strings of the call's own, in a block from lo on -/
def OwnS (w : World) (lo : Nat) (v : Value) (ts : List ByteArray) : Prop := w.ownsRow lo 9 1 v ts.length (ts.map Value.string)
theorem StrsAt.at_ {w : World} {A : Option Addr} {n k : Nat} {ts : List ByteArray} (h : StrsAt w A n ts) (hk : k < n) : ∃ b o, A = some ⟨b, o, none⟩ ∧ b < w.heap.size ∧ ∀ j, j < n → w.cell? ⟨b, o + j, none⟩ = some (.string (sx ts j)) := by
  obtain ⟨b, o, e, hc⟩ := h.2 (by omega)
  exact ⟨b, o, e, cell_lt (hc 0 (by omega)), hc⟩
theorem StrsAt.below {w w' : World} {A : Option Addr} {n : Nat} {ts : List ByteArray} (h : StrsAt w A n ts) (hb : Below w.heap.size w w') : StrsAt w' A n ts := by
  refine ⟨h.1, fun hn => ?_⟩
  obtain ⟨b, o, e, hc⟩ := h.2 hn
  exact ⟨b, o, e, fun j hj => (hb.cell (p := ⟨b, o + j, none⟩) (cell_lt (hc j hj))).trans (hc j hj)⟩
theorem OwnS.belowW {w w' : World} {lo : Nat} {v : Value} {ts : List ByteArray} (h : OwnS w lo v ts) (hb : Below w.heap.size w w') : OwnS w' lo v ts := by
  refine ⟨h.1, ?_⟩
  rcases h.2 with h0 | ⟨g', cap, cur, hv, hgb, hg', r⟩
  · exact .inl h0
  · exact .inr ⟨g', cap, cur, hv, hgb, by rw [hb.block g' (Array.getElem?_eq_some_iff.1 hg').1]; exact hg', r⟩
theorem OwnS.nil (w : World) (lo : Nat) : OwnS w lo (.slice none 0 0) [] := World.ownsRow_nil _ _ _ _
theorem OwnS.form {w : World} {lo : Nat} {v : Value} {ts : List ByteArray} (h : OwnS w lo v ts) : ∃ A c, v = .slice A ts.length c ∧ ts.length ≤ c ∧ StrsAt w A ts.length ts := by
  rcases h.2 with ⟨e, h0⟩ | ⟨g, cap, cur, e, hgb, hg, r⟩
  · exact ⟨none, 0, by rw [e, h0], by omega, rfl, fun hn => absurd hn (by omega)⟩
  · subst e
    have h' : w.ownsRow lo 9 1 (.slice (some ⟨g, 0, none⟩) ts.length cap) ts.length (ts.map Value.string) := h
    refine ⟨some ⟨g, 0, none⟩, cap, rfl, ?_, rfl, fun hn => ⟨g, 0, rfl, fun j hj => ?_⟩⟩
    · exact r.1
    · have := World.ownsRow.cellAt h' j (by omega)
      rw [Nat.zero_add, this]
      simp [hj, sx_lt hj]
theorem OwnS.slice {w : World} {lo n c : Nat} {A : Option Addr} {ts : List ByteArray} (h : OwnS w lo (.slice A n c) ts) : ts.length = n ∧ n ≤ c ∧ StrsAt w A n ts := by
  obtain ⟨A', c', e, hc, hs⟩ := h.form
  cases e
  exact ⟨rfl, hc, hs⟩
theorem OwnS.empty (w : World) {lo : Nat} (hl : lo ≤ w.heap.size) : OwnS (w.alloc (.cells #[] 9)) lo (.slice (some ⟨w.heap.size, 0, none⟩) 0 0) [] := by
  refine ⟨rfl, .inr ⟨w.heap.size, 0, _, rfl, hl, heap_alloc_new w _, Nat.zero_le _, by unfold maxLen; omega, ?_, by simp⟩⟩
  simp

section
variable {ops : Array Oper} {rest : List Oper} {o : Oper} {a : Act} {Q : Exit → Act → World → Prop}
/-- 'out = append(out, s)', out nil or the call's own -/
theorem wpList_append_str (w : World) (hg : o.guard = none) (s x : Operand) (hop : o.op = Op.call { callee := Callee.builtin Builtin.append, args := #[s, x], argTypes := #[30, 30] })
    (lo n c : Nat) (A : Option Addr) (ts : List ByteArray) (hs : a.eval s = .slice A n c) (hown : OwnS w lo (.slice A n c) ts)
    (y : ByteArray) (b cc : Nat) (hx : a.eval x = .slice (some ⟨b, 0, none⟩) 1 cc) (hcell : w.cell? ⟨b, 0, none⟩ = some (.string y)) (hn : n ≤ 1048576) (hbase : lo ≤ w.heap.size)
    (hK : ∀ A' c' w', OwnS w' lo (.slice A' (n + 1) c') (ts ++ [y]) → w.grownBy w' (Value.slice A n c).ownBlock → wpList Tryd.prog ops Q rest (a.put o.dst (.slice A' (n + 1) c')) w') :
    wpList Tryd.prog ops Q (o :: rest) a w := by
  obtain ⟨i0, hi0, hz0, hz1, hz2⟩ := info_parts infoS
  obtain rfl := hown.slice.1
  refine wpList_append_own_at w hg s x 30 hop lo 9 i0 (.string ⟨#[]⟩) 1 16 Tryd.underlying30 hi0 hz0 hz1 hz2 rfl (by decide) _ ts.length _ hs hown ⟨b, 0, none⟩ 1 cc [.string y] hx rfl ?_ ?_ (by unfold maxLen; omega) (by omega) hbase ?_
  · intro j u hj
    match j, hj with
    | 0, hj => simp at hj; subst hj; simpa [Addr.add] using hcell
  · intro u hu; simp at hu; subst hu; rfl
  · intro v' w' hown' hgrow _ hat
    have h2 : OwnS w' lo v' (ts ++ [y]) := by
      unfold OwnS
      rw [List.map_append, List.length_append]
      exact hown'
    obtain ⟨A', c', e, _⟩ := h2.form
    rw [List.length_append] at e
    subst e
    exact hK A' c' w' h2 hgrow
/-- 'out = append(out, ys...)' -/
theorem wpList_append_strs (w : World) (hg : o.guard = none) (s x : Operand) (hop : o.op = Op.call { callee := Callee.builtin Builtin.append, args := #[s, x], argTypes := #[30, 30] })
    (lo n c : Nat) (A : Option Addr) (ts : List ByteArray) (hs : a.eval s = .slice A n c) (hown : OwnS w lo (.slice A n c) ts)
    (b oo m cc : Nat) (ys : List ByteArray) (hx : a.eval x = .slice (some ⟨b, oo, none⟩) m cc) (hm : ys.length = m) (hcell : ∀ j, j < m → w.cell? ⟨b, oo + j, none⟩ = some (.string (sx ys j))) (hn : n + m ≤ 1048576) (hbase : lo ≤ w.heap.size)
    (hK : ∀ A' c' w', OwnS w' lo (.slice A' (n + m) c') (ts ++ ys) → w.grownBy w' (Value.slice A n c).ownBlock → wpList Tryd.prog ops Q rest (a.put o.dst (.slice A' (n + m) c')) w') :
    wpList Tryd.prog ops Q (o :: rest) a w := by
  obtain ⟨i0, hi0, hz0, hz1, hz2⟩ := info_parts infoS
  obtain rfl := hown.slice.1
  subst hm
  refine wpList_append_own_at w hg s x 30 hop lo 9 i0 (.string ⟨#[]⟩) 1 16 Tryd.underlying30 hi0 hz0 hz1 hz2 rfl (by decide) _ ts.length _ hs hown ⟨b, oo, none⟩ ys.length cc (ys.map Value.string) hx (by simp) ?_ ?_ (by unfold maxLen; omega) (by omega) hbase ?_
  · intro j u hj
    have hjl : j < ys.length := by
      have := (List.getElem?_eq_some_iff.1 hj).1
      simpa using this
    rw [Addr.add_lit, hcell j hjl, sx_lt hjl]
    simp [hjl] at hj
    rw [hj]
  · intro u hu
    obtain ⟨y, _, rfl⟩ := List.mem_map.1 hu
    rfl
  · intro v' w' hown' hgrow _ hat
    have h2 : OwnS w' lo v' (ts ++ ys) := by
      unfold OwnS
      rw [List.map_append, List.length_append]
      exact hown'
    obtain ⟨A', c', e, _⟩ := h2.form
    rw [List.length_append] at e
    subst e
    exact hK A' c' w' h2 hgrow
end

/-- the text of a ranking, as numbers of its letters; and the strings of rows -/
def rankNums (xs : List Int) : List Int := xs.map (97 + ·)
def textsOf (xss : List (List Int)) : List ByteArray := xss.map fun xs => strOfNums (rankNums xs)
theorem str_append (a b : List Int) : strOfNums a ++ strOfNums b = strOfNums (a ++ b) := by
  unfold strOfNums
  apply ByteArray.ext
  simp
theorem textsOf_take {xss : List (List Int)} {k : Nat} (h : k < xss.length) : textsOf (xss.take (k + 1)) = textsOf (xss.take k) ++ [strOfNums (rankNums (rx xss k))] := by
  unfold textsOf; rw [take_rx h]; simp
theorem textsOf_len (xss : List (List Int)) : (textsOf xss).length = xss.length := by simp [textsOf]
end Go.Proofs.YtnoanomihifobaaDoor
