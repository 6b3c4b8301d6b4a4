/- slices.Delete of one place of 0, 1, .. (at most three numbers); shifted, others. -/
import Derived.Test.YteglddkeagicmaaOrdersW
namespace Go.Proofs.Yteglddkeagicmaa
set_option linter.unusedVariables false
open Go.RowKit
theorem OwnI.shrink {w : World} {lo hi g n c k : Nat} {xs : List Int} (h : OwnI w lo hi (.slice (some ⟨g, 0, none⟩) n c) xs) (hk : k ≤ n) : OwnI w lo hi (.slice (some ⟨g, 0, none⟩) k c) (xs.take k) := by
  obtain ⟨rfl, _⟩ := h.num
  have hl : (xs.take k).length = k := by rw [List.length_take]; omega
  rcases h.1.2 with ⟨e, _⟩ | ⟨g', cap, cur, hv, hgb, hg, hc, hm, hs, ht⟩
  · cases e
  · cases hv
    refine ⟨⟨by rw [hl, List.length_map, hl]; omega, .inr ⟨g, c, cur, by rw [hl], hgb, hg, by omega, hm, hs, ?_⟩⟩, h.2⟩
    rw [hl, Nat.mul_one, List.map_take, ← ht, Nat.mul_one, List.take_take]
    congr 1
    omega
theorem Only.drewD {lo hi : Nat} {w w' : World} (h : Only lo hi w w') : Only lo hi w w'.drew := ⟨h.os, h.tape, h.output, h.size, h.block⟩
theorem upon_clear1 {o : Oper} {a : Act} {K : Act → World → Prop} {Q : Exit → Act → World → Prop} (W : World) (g j c : Nat) {u : Value} (hc : W.cell? ⟨g, j, none⟩ = some u) (hf : W.frozen? ⟨g, j, none⟩ = false)
    (hK : K (a.put o.dst (.tuple #[])) (W.setCell ⟨g, j, none⟩ (.int .i64 0))) :
    Oper.upon Try.prog o a K Q ((Sem.run Try.prog (Builtin.clear_ #[22] 0 #[.slice (some ⟨g, j, none⟩) 1 c]) W).andThen fun v w' => .ok (.value v) w') := by
  obtain ⟨i0, hi, hz0, hz1, hz2⟩ := info_parts infoI
  have hrun : (Builtin.clear_ #[22] 0 #[.slice (some ⟨g, j, none⟩) 1 c]).run Try.prog W = .ok (.tuple #[]) (W.setCell ⟨g, j, none⟩ (.int .i64 0)) := by
    simp [Builtin.clear_, run_underlying Try.underlying22, zeroValue, typeInfo, hi, hz0, Value.cells, Builtin.zeroCells, storeCells, hc, hf, go_sem]
  rw [hrun]
  exact hK
set_option maxHeartbeats 2000000 in
theorem delete_10 (g c : Nat) (w : World) (h : OwnI w g (g + 1) (.slice (some ⟨g, 0, none⟩) 1 c) [0]) (hc : 1 ≤ c) :
    Calls Try.prog 70 #[.slice (some ⟨g, 0, none⟩) 1 c, .int .i64 0, .int .i64 1] w fun e w' => e = .returned (.slice (some ⟨g, 0, none⟩) 0 c) ∧ OwnI w' g (g + 1) (.slice (some ⟨g, 0, none⟩) 0 c) [] ∧ Only g (g + 1) w w' := by
  have c0 : w.cell? ⟨g, 0, none⟩ = some (.int .i64 0) := h.cellAt 0 (by omega)
  have f0 := h.frozenAt 0
  have HC := Lib.hid (h.cellAt 0 (by omega))
  have HF := Lib.hid (h.frozenAt 0)
  have H := Lib.hid h
  have HN := Lib.hid (Only.refl g (g + 1) w)
  by_cases hne : c = 1
  · have hne2 : 1 = c := hne.symm
    subst hne
    go_enter Try.func70, Try.ntmps70
    go_wp2
    go_region
    all_goals
      go_wp2_with (refine upon_clear1 (u := .int .i64 0) _ g 0 _ ?_ ?_ ?_; (· exact HC.out); (· exact HF.out))
      go_ret
      obtain ⟨a1, b1⟩ := H.out.stored 0 0
      exact ⟨rfl, a1.shrink (k := 0) (by omega), (HN.out.trans b1).drewD⟩
  · have hne2 : ¬ (1 = c) := fun e => hne e.symm
    go_enter Try.func70, Try.ntmps70
    go_wp2
    go_region
    all_goals
      go_wp2_with (refine upon_clear1 (u := .int .i64 0) _ g 0 _ ?_ ?_ ?_; (· exact HC.out); (· exact HF.out))
      go_ret
      obtain ⟨a1, b1⟩ := H.out.stored 0 0
      exact ⟨rfl, a1.shrink (k := 0) (by omega), (HN.out.trans b1).drewD⟩
set_option maxHeartbeats 2000000 in
theorem delete_20 (g c : Nat) (w : World) (h : OwnI w g (g + 1) (.slice (some ⟨g, 0, none⟩) 2 c) [0, 1]) (hc : 2 ≤ c) :
    Calls Try.prog 70 #[.slice (some ⟨g, 0, none⟩) 2 c, .int .i64 0, .int .i64 1] w fun e w' => e = .returned (.slice (some ⟨g, 0, none⟩) 1 c) ∧ OwnI w' g (g + 1) (.slice (some ⟨g, 0, none⟩) 1 c) [1] ∧ Only g (g + 1) w w' := by
  have c0 : w.cell? ⟨g, 0, none⟩ = some (.int .i64 0) := h.cellAt 0 (by omega)
  have f0 := h.frozenAt 0
  have c1 : w.cell? ⟨g, 1, none⟩ = some (.int .i64 1) := h.cellAt 1 (by omega)
  have f1 := h.frozenAt 1
  obtain ⟨s1, n1⟩ := h.stored 0 1
  have HC := Lib.hid (s1.cellAt 1 (by omega))
  have HF := Lib.hid (s1.frozenAt 1)
  have H := Lib.hid s1
  have HN := Lib.hid (n1)
  clear s1 n1
  have hne : ¬ (c = 1) := by omega
  have hne2 : ¬ (1 = c) := by omega
  go_enter Try.func70, Try.ntmps70
  go_wp2
  go_region
  all_goals
    go_wp2_with (refine upon_clear1 (u := .int .i64 1) _ g 1 _ ?_ ?_ ?_; (· exact HC.out); (· exact HF.out))
    go_ret
    obtain ⟨a1, b1⟩ := H.out.stored 1 0
    exact ⟨rfl, a1.shrink (k := 1) (by omega), (HN.out.trans b1).drewD⟩
set_option maxHeartbeats 2000000 in
theorem delete_21 (g c : Nat) (w : World) (h : OwnI w g (g + 1) (.slice (some ⟨g, 0, none⟩) 2 c) [0, 1]) (hc : 2 ≤ c) :
    Calls Try.prog 70 #[.slice (some ⟨g, 0, none⟩) 2 c, .int .i64 1, .int .i64 2] w fun e w' => e = .returned (.slice (some ⟨g, 0, none⟩) 1 c) ∧ OwnI w' g (g + 1) (.slice (some ⟨g, 0, none⟩) 1 c) [0] ∧ Only g (g + 1) w w' := by
  have c0 : w.cell? ⟨g, 0, none⟩ = some (.int .i64 0) := h.cellAt 0 (by omega)
  have f0 := h.frozenAt 0
  have c1 : w.cell? ⟨g, 1, none⟩ = some (.int .i64 1) := h.cellAt 1 (by omega)
  have f1 := h.frozenAt 1
  have HC := Lib.hid (h.cellAt 1 (by omega))
  have HF := Lib.hid (h.frozenAt 1)
  have H := Lib.hid h
  have HN := Lib.hid (Only.refl g (g + 1) w)
  by_cases hne : c = 2
  · have hne2 : 2 = c := hne.symm
    subst hne
    go_enter Try.func70, Try.ntmps70
    go_wp2
    go_region
    all_goals
      go_wp2_with (refine upon_clear1 (u := .int .i64 1) _ g 1 _ ?_ ?_ ?_; (· exact HC.out); (· exact HF.out))
      go_ret
      obtain ⟨a1, b1⟩ := H.out.stored 1 0
      exact ⟨rfl, a1.shrink (k := 1) (by omega), (HN.out.trans b1).drewD⟩
  · have hne2 : ¬ (2 = c) := fun e => hne e.symm
    go_enter Try.func70, Try.ntmps70
    go_wp2
    go_region
    all_goals
      go_wp2_with (refine upon_clear1 (u := .int .i64 1) _ g 1 _ ?_ ?_ ?_; (· exact HC.out); (· exact HF.out))
      go_ret
      obtain ⟨a1, b1⟩ := H.out.stored 1 0
      exact ⟨rfl, a1.shrink (k := 1) (by omega), (HN.out.trans b1).drewD⟩
set_option maxHeartbeats 2000000 in
theorem delete_30 (g c : Nat) (w : World) (h : OwnI w g (g + 1) (.slice (some ⟨g, 0, none⟩) 3 c) [0, 1, 2]) (hc : 3 ≤ c) :
    Calls Try.prog 70 #[.slice (some ⟨g, 0, none⟩) 3 c, .int .i64 0, .int .i64 1] w fun e w' => e = .returned (.slice (some ⟨g, 0, none⟩) 2 c) ∧ OwnI w' g (g + 1) (.slice (some ⟨g, 0, none⟩) 2 c) [1, 2] ∧ Only g (g + 1) w w' := by
  have c0 : w.cell? ⟨g, 0, none⟩ = some (.int .i64 0) := h.cellAt 0 (by omega)
  have f0 := h.frozenAt 0
  have c1 : w.cell? ⟨g, 1, none⟩ = some (.int .i64 1) := h.cellAt 1 (by omega)
  have f1 := h.frozenAt 1
  have c2 : w.cell? ⟨g, 2, none⟩ = some (.int .i64 2) := h.cellAt 2 (by omega)
  have f2 := h.frozenAt 2
  obtain ⟨s1, n1⟩ := h.stored 0 1
  obtain ⟨s2, n2⟩ := s1.stored 1 2
  have HC := Lib.hid (s2.cellAt 2 (by omega))
  have HF := Lib.hid (s2.frozenAt 2)
  have H := Lib.hid s2
  have HN := Lib.hid (n1.trans n2)
  clear s1 n1 s2 n2
  have hne : ¬ (c = 1) := by omega
  have hne2 : ¬ (1 = c) := by omega
  go_enter Try.func70, Try.ntmps70
  go_wp2
  go_region
  all_goals
    go_wp2_with (refine upon_clear1 (u := .int .i64 2) _ g 2 _ ?_ ?_ ?_; (· exact HC.out); (· exact HF.out))
    go_ret
    obtain ⟨a1, b1⟩ := H.out.stored 2 0
    exact ⟨rfl, a1.shrink (k := 2) (by omega), (HN.out.trans b1).drewD⟩
set_option maxHeartbeats 2000000 in
theorem delete_31 (g c : Nat) (w : World) (h : OwnI w g (g + 1) (.slice (some ⟨g, 0, none⟩) 3 c) [0, 1, 2]) (hc : 3 ≤ c) :
    Calls Try.prog 70 #[.slice (some ⟨g, 0, none⟩) 3 c, .int .i64 1, .int .i64 2] w fun e w' => e = .returned (.slice (some ⟨g, 0, none⟩) 2 c) ∧ OwnI w' g (g + 1) (.slice (some ⟨g, 0, none⟩) 2 c) [0, 2] ∧ Only g (g + 1) w w' := by
  have c0 : w.cell? ⟨g, 0, none⟩ = some (.int .i64 0) := h.cellAt 0 (by omega)
  have f0 := h.frozenAt 0
  have c1 : w.cell? ⟨g, 1, none⟩ = some (.int .i64 1) := h.cellAt 1 (by omega)
  have f1 := h.frozenAt 1
  have c2 : w.cell? ⟨g, 2, none⟩ = some (.int .i64 2) := h.cellAt 2 (by omega)
  have f2 := h.frozenAt 2
  obtain ⟨s1, n1⟩ := h.stored 1 2
  have HC := Lib.hid (s1.cellAt 2 (by omega))
  have HF := Lib.hid (s1.frozenAt 2)
  have H := Lib.hid s1
  have HN := Lib.hid (n1)
  clear s1 n1
  have hne : ¬ (c = 2) := by omega
  have hne2 : ¬ (2 = c) := by omega
  go_enter Try.func70, Try.ntmps70
  go_wp2
  go_region
  all_goals
    go_wp2_with (refine upon_clear1 (u := .int .i64 2) _ g 2 _ ?_ ?_ ?_; (· exact HC.out); (· exact HF.out))
    go_ret
    obtain ⟨a1, b1⟩ := H.out.stored 2 0
    exact ⟨rfl, a1.shrink (k := 2) (by omega), (HN.out.trans b1).drewD⟩
set_option maxHeartbeats 2000000 in
theorem delete_32 (g c : Nat) (w : World) (h : OwnI w g (g + 1) (.slice (some ⟨g, 0, none⟩) 3 c) [0, 1, 2]) (hc : 3 ≤ c) :
    Calls Try.prog 70 #[.slice (some ⟨g, 0, none⟩) 3 c, .int .i64 2, .int .i64 3] w fun e w' => e = .returned (.slice (some ⟨g, 0, none⟩) 2 c) ∧ OwnI w' g (g + 1) (.slice (some ⟨g, 0, none⟩) 2 c) [0, 1] ∧ Only g (g + 1) w w' := by
  have c0 : w.cell? ⟨g, 0, none⟩ = some (.int .i64 0) := h.cellAt 0 (by omega)
  have f0 := h.frozenAt 0
  have c1 : w.cell? ⟨g, 1, none⟩ = some (.int .i64 1) := h.cellAt 1 (by omega)
  have f1 := h.frozenAt 1
  have c2 : w.cell? ⟨g, 2, none⟩ = some (.int .i64 2) := h.cellAt 2 (by omega)
  have f2 := h.frozenAt 2
  have HC := Lib.hid (h.cellAt 2 (by omega))
  have HF := Lib.hid (h.frozenAt 2)
  have H := Lib.hid h
  have HN := Lib.hid (Only.refl g (g + 1) w)
  by_cases hne : c = 3
  · have hne2 : 3 = c := hne.symm
    subst hne
    go_enter Try.func70, Try.ntmps70
    go_wp2
    go_region
    all_goals
      go_wp2_with (refine upon_clear1 (u := .int .i64 2) _ g 2 _ ?_ ?_ ?_; (· exact HC.out); (· exact HF.out))
      go_ret
      obtain ⟨a1, b1⟩ := H.out.stored 2 0
      exact ⟨rfl, a1.shrink (k := 2) (by omega), (HN.out.trans b1).drewD⟩
  · have hne2 : ¬ (3 = c) := fun e => hne e.symm
    go_enter Try.func70, Try.ntmps70
    go_wp2
    go_region
    all_goals
      go_wp2_with (refine upon_clear1 (u := .int .i64 2) _ g 2 _ ?_ ?_ ?_; (· exact HC.out); (· exact HF.out))
      go_ret
      obtain ⟨a1, b1⟩ := H.out.stored 2 0
      exact ⟨rfl, a1.shrink (k := 2) (by omega), (HN.out.trans b1).drewD⟩
end Go.Proofs.Yteglddkeagicmaa
