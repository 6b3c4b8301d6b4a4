/- 'out = append(out, row)' where only the headers of out are told. -/
import Derived.Test.YtefppihanblhmaaBaseR
namespace Go.Proofs.Ytefppihanblhmaa
set_option linter.unusedVariables false
open Go.RowKit

section
variable {ops : Array Oper} {rest : List Oper} {o : Oper} {a : Act} {Q : Exit → Act → World → Prop}
theorem wpList_append_hdr (w : World) (hg : o.guard = none) (s x : Operand) (hop : o.op = Op.call { callee := Callee.builtin Builtin.append, args := #[s, x], argTypes := #[23, 23] })
    (lo n c : Nat) (A : Option Addr) (vs : List Value) (hs : a.eval s = .slice A n c) (h1 : w.ownsRow lo 32 1 (.slice A n c) n vs)
    (g cc : Nat) (u : Value) (hx : a.eval x = .slice (some ⟨g, 0, none⟩) 1 cc) (hc : w.cell? ⟨g, 0, none⟩ = some u) (hu : u.oneCell' = true) (hn : n + 1 ≤ 1000000000000) (hlw : lo ≤ w.heap.size)
    (hK : ∀ A'' c'' w', w'.ownsRow lo 32 1 (.slice A'' (n + 1) c'') (n + 1) (vs ++ [u]) → w.grownBy w' (Value.slice A n c).ownBlock → ((Value.slice A'' (n + 1) c'').ownBlock = (Value.slice A n c).ownBlock ∨ (Value.slice A'' (n + 1) c'').ownBlock = some w.heap.size) → wpList Try.prog ops Q rest (a.put o.dst (.slice A'' (n + 1) c'')) w') :
    wpList Try.prog ops Q (o :: rest) a w := by
  obtain ⟨i0, hi0, hz0, hz1, hz2⟩ := info_parts infoR
  have hform : ∀ (v' : Value) (w' : World), w'.ownsRow lo 32 1 v' (n + 1) (vs ++ [u]) → ∃ A'' c'', v' = .slice A'' (n + 1) c'' := fun v' w' ho => by
    rcases ho.2 with ⟨rfl, h0⟩ | ⟨g, cap, cur, rfl, _⟩
    · exact ⟨none, 0, by rw [h0]⟩
    · exact ⟨_, _, rfl⟩
  refine wpList_append_own_at w hg s x 23 hop lo 32 i0 (.slice none 0 0) 1 24 Try.underlying23 hi0 hz0 hz1 hz2 rfl (by decide) _ n _ hs h1 ⟨g, 0, none⟩ 1 cc [u] hx (by simp) ?_ (by intro y hy; simp at hy; subst hy; exact hu) (by unfold maxLen; omega) (by omega) (by omega) ?_
  · intro j y hj
    match j, hj with
    | 0, hj =>
      simp at hj
      subst hj
      rw [Addr.add_lit, Nat.add_zero]
      exact hc
  · intro v' w' hown' hgrow _ hat
    obtain ⟨A'', c'', rfl⟩ := hform v' w' hown'
    exact hK A'' c'' w' hown' hgrow hat
end
theorem ownsRow_grown {w w' : World} {lo n E : Nat} {v : Value} {vs : List Value} {row : Option Nat} (h : w.ownsRow lo E 1 v n vs) (hg : w.grownBy w' row) (hr : ∀ k, row = some k → v.ownBlock ≠ some k) : w'.ownsRow lo E 1 v n vs := by
  refine ⟨h.1, ?_⟩
  rcases h.2 with h0 | ⟨g', cap, cur, hv, hgb, hg', r⟩
  · exact .inl h0
  · refine .inr ⟨g', cap, cur, hv, hgb, ?_, r⟩
    rw [hg.block g' (Array.getElem?_eq_some_iff.1 hg').1]
    · exact hg'
    · intro e'
      exact hr g' e'.symm (by rw [hv]; rfl)
theorem ownsRow_belowW {w w' : World} {lo n E : Nat} {v : Value} {vs : List Value} (h : w.ownsRow lo E 1 v n vs) (hb : Below w.heap.size w w') : w'.ownsRow lo E 1 v n vs := by
  refine ⟨h.1, ?_⟩
  rcases h.2 with h0 | ⟨g', cap, cur, hv, hgb, hg', r⟩
  · exact .inl h0
  · exact .inr ⟨g', cap, cur, hv, hgb, by rw [hb.block g' (Array.getElem?_eq_some_iff.1 hg').1]; exact hg', r⟩
end Go.Proofs.Ytefppihanblhmaa
