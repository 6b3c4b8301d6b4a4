/- slices.Delete of one place of at most five numbers. The numbers below n, in a slice of their own. -/
import Derived.Test.YtaanppihgldeaaaGreatDoorW03
import Derived.Test.YtaanppihgldeaaaGreatDoorW01
namespace Go.Proofs.YtaanppihgldeaaaGreatDoor
set_option linter.unusedSimpArgs false
set_option linter.unusedVariables false
set_option linter.unusedVariables false
open Go.RowKit
theorem OwnI.shrink {w : World} {lo hi g n c k : Nat} {xs : List Int} (h : OwnI w lo hi (.slice (some ⟨g, 0, none⟩) n c) xs) (hk : k ≤ n) : OwnI w lo hi (.slice (some ⟨g, 0, none⟩) k c) (xs.take k) := by
  obtain ⟨rfl, _⟩ := h.num
  have hl : (xs.take k).length = k := by rw [List.length_take]; omega
  rcases h.1.2 with ⟨e, _⟩ | ⟨g', cap, cur, hv, hgb, hg, hc, hm, hs, ht⟩
  · cases e
  · cases hv
    refine ⟨⟨by rw [hl, List.length_map, hl]; omega, .inr ⟨g, c, cur, by rw [hl], hgb, hg, by omega, hm, hs, ?_⟩⟩, h.2⟩
    rw [hl, Nat.mul_one, List.map_take, ← ht, Nat.mul_one, List.take_take]
    congr 1
    omega
theorem Only.drewD {lo hi : Nat} {w w' : World} (h : Only lo hi w w') : Only lo hi w w'.drew := ⟨h.os, h.tape, h.output, h.size, h.block⟩
set_option maxRecDepth 100000 in
theorem upon_clear1 {o : Oper} {a : Act} {K : Act → World → Prop} {Q : Exit → Act → World → Prop} (W : World) (g j c : Nat) {u : Value} (hc : W.cell? ⟨g, j, none⟩ = some u) (hf : W.frozen? ⟨g, j, none⟩ = false)
    (hK : K (a.put o.dst (.tuple #[])) (W.setCell ⟨g, j, none⟩ (.int .i64 0))) :
    Oper.upon Tryz.prog o a K Q ((Sem.run Tryz.prog (Builtin.clear_ #[27] 0 #[.slice (some ⟨g, j, none⟩) 1 c]) W).andThen fun v w' => .ok (.value v) w') := by
  obtain ⟨i0, hi, hz0, hz1, hz2⟩ := info_parts infoI
  have hrun : (Builtin.clear_ #[27] 0 #[.slice (some ⟨g, j, none⟩) 1 c]).run Tryz.prog W = .ok (.tuple #[]) (W.setCell ⟨g, j, none⟩ (.int .i64 0)) := by
    simp [Builtin.clear_, run_underlying Tryz.underlying27, zeroValue, typeInfo, hi, hz0, Value.cells, Builtin.zeroCells, storeCells, hc, hf, go_sem]
  rw [hrun]
  exact hK
set_option maxRecDepth 100000 in
set_option maxHeartbeats 2000000 in
theorem delete5_10 (g c : Nat) (x0 : Int) (w : World) (h : OwnI w g (g + 1) (.slice (some ⟨g, 0, none⟩) 1 c) [x0]) (hc : 1 ≤ c) :
    Calls Tryz.prog 124 #[.slice (some ⟨g, 0, none⟩) 1 c, .int .i64 0, .int .i64 1] w fun e w' => e = .returned (.slice (some ⟨g, 0, none⟩) 0 c) ∧ OwnI w' g (g + 1) (.slice (some ⟨g, 0, none⟩) 0 c) [] ∧ Only g (g + 1) w w' := by
  have c0 : w.cell? ⟨g, 0, none⟩ = some (.int .i64 x0) := h.cellAt 0 (by omega)
  have f0 := h.frozenAt 0
  have HC := Lib.hid (h.cellAt 0 (by omega))
  have HF := Lib.hid (h.frozenAt 0)
  have H := Lib.hid h
  have HN := Lib.hid (Only.refl g (g + 1) w)
  by_cases hne : c = 1
  · have hne2 : 1 = c := hne.symm
    subst hne
    go_enter Tryz.func124, Tryz.ntmps124
    go_wp2
    go_region
    all_goals
      go_wp2_with (refine upon_clear1 (u := .int .i64 x0) _ g 0 _ ?_ ?_ ?_; (· exact HC.out); (· exact HF.out))
      go_ret
      obtain ⟨a1, b1⟩ := H.out.stored 0 0
      exact ⟨rfl, a1.shrink (k := 0) (by omega), (HN.out.trans b1).drewD⟩
  · have hne2 : ¬ (1 = c) := fun e => hne e.symm
    go_enter Tryz.func124, Tryz.ntmps124
    go_wp2
    go_region
    all_goals
      go_wp2_with (refine upon_clear1 (u := .int .i64 x0) _ g 0 _ ?_ ?_ ?_; (· exact HC.out); (· exact HF.out))
      go_ret
      obtain ⟨a1, b1⟩ := H.out.stored 0 0
      exact ⟨rfl, a1.shrink (k := 0) (by omega), (HN.out.trans b1).drewD⟩
set_option maxRecDepth 100000 in
set_option maxHeartbeats 2000000 in
theorem delete5_20 (g c : Nat) (x0 x1 : Int) (w : World) (h : OwnI w g (g + 1) (.slice (some ⟨g, 0, none⟩) 2 c) [x0, x1]) (hc : 2 ≤ c) :
    Calls Tryz.prog 124 #[.slice (some ⟨g, 0, none⟩) 2 c, .int .i64 0, .int .i64 1] w fun e w' => e = .returned (.slice (some ⟨g, 0, none⟩) 1 c) ∧ OwnI w' g (g + 1) (.slice (some ⟨g, 0, none⟩) 1 c) [x1] ∧ Only g (g + 1) w w' := by
  have c0 : w.cell? ⟨g, 0, none⟩ = some (.int .i64 x0) := h.cellAt 0 (by omega)
  have f0 := h.frozenAt 0
  have c1 : w.cell? ⟨g, 1, none⟩ = some (.int .i64 x1) := h.cellAt 1 (by omega)
  have f1 := h.frozenAt 1
  obtain ⟨s1, n1⟩ := h.stored 0 x1
  have HC := Lib.hid (s1.cellAt 1 (by omega))
  have HF := Lib.hid (s1.frozenAt 1)
  have H := Lib.hid s1
  have HN := Lib.hid (n1)
  clear s1 n1
  have hne : ¬ (c = 1) := by omega
  have hne2 : ¬ (1 = c) := by omega
  go_enter Tryz.func124, Tryz.ntmps124
  go_wp2
  go_region
  all_goals
    go_wp2_with (refine upon_clear1 (u := .int .i64 x1) _ g 1 _ ?_ ?_ ?_; (· exact HC.out); (· exact HF.out))
    go_ret
    obtain ⟨a1, b1⟩ := H.out.stored 1 0
    exact ⟨rfl, a1.shrink (k := 1) (by omega), (HN.out.trans b1).drewD⟩
set_option maxRecDepth 100000 in
set_option maxHeartbeats 2000000 in
theorem delete5_21 (g c : Nat) (x0 x1 : Int) (w : World) (h : OwnI w g (g + 1) (.slice (some ⟨g, 0, none⟩) 2 c) [x0, x1]) (hc : 2 ≤ c) :
    Calls Tryz.prog 124 #[.slice (some ⟨g, 0, none⟩) 2 c, .int .i64 1, .int .i64 2] w fun e w' => e = .returned (.slice (some ⟨g, 0, none⟩) 1 c) ∧ OwnI w' g (g + 1) (.slice (some ⟨g, 0, none⟩) 1 c) [x0] ∧ Only g (g + 1) w w' := by
  have c0 : w.cell? ⟨g, 0, none⟩ = some (.int .i64 x0) := h.cellAt 0 (by omega)
  have f0 := h.frozenAt 0
  have c1 : w.cell? ⟨g, 1, none⟩ = some (.int .i64 x1) := h.cellAt 1 (by omega)
  have f1 := h.frozenAt 1
  have HC := Lib.hid (h.cellAt 1 (by omega))
  have HF := Lib.hid (h.frozenAt 1)
  have H := Lib.hid h
  have HN := Lib.hid (Only.refl g (g + 1) w)
  by_cases hne : c = 2
  · have hne2 : 2 = c := hne.symm
    subst hne
    go_enter Tryz.func124, Tryz.ntmps124
    go_wp2
    go_region
    all_goals
      go_wp2_with (refine upon_clear1 (u := .int .i64 x1) _ g 1 _ ?_ ?_ ?_; (· exact HC.out); (· exact HF.out))
      go_ret
      obtain ⟨a1, b1⟩ := H.out.stored 1 0
      exact ⟨rfl, a1.shrink (k := 1) (by omega), (HN.out.trans b1).drewD⟩
  · have hne2 : ¬ (2 = c) := fun e => hne e.symm
    go_enter Tryz.func124, Tryz.ntmps124
    go_wp2
    go_region
    all_goals
      go_wp2_with (refine upon_clear1 (u := .int .i64 x1) _ g 1 _ ?_ ?_ ?_; (· exact HC.out); (· exact HF.out))
      go_ret
      obtain ⟨a1, b1⟩ := H.out.stored 1 0
      exact ⟨rfl, a1.shrink (k := 1) (by omega), (HN.out.trans b1).drewD⟩
set_option maxRecDepth 100000 in
set_option maxHeartbeats 2000000 in
theorem delete5_30 (g c : Nat) (x0 x1 x2 : Int) (w : World) (h : OwnI w g (g + 1) (.slice (some ⟨g, 0, none⟩) 3 c) [x0, x1, x2]) (hc : 3 ≤ c) :
    Calls Tryz.prog 124 #[.slice (some ⟨g, 0, none⟩) 3 c, .int .i64 0, .int .i64 1] w fun e w' => e = .returned (.slice (some ⟨g, 0, none⟩) 2 c) ∧ OwnI w' g (g + 1) (.slice (some ⟨g, 0, none⟩) 2 c) [x1, x2] ∧ Only g (g + 1) w w' := by
  have c0 : w.cell? ⟨g, 0, none⟩ = some (.int .i64 x0) := h.cellAt 0 (by omega)
  have f0 := h.frozenAt 0
  have c1 : w.cell? ⟨g, 1, none⟩ = some (.int .i64 x1) := h.cellAt 1 (by omega)
  have f1 := h.frozenAt 1
  have c2 : w.cell? ⟨g, 2, none⟩ = some (.int .i64 x2) := h.cellAt 2 (by omega)
  have f2 := h.frozenAt 2
  obtain ⟨s1, n1⟩ := h.stored 0 x1
  obtain ⟨s2, n2⟩ := s1.stored 1 x2
  have HC := Lib.hid (s2.cellAt 2 (by omega))
  have HF := Lib.hid (s2.frozenAt 2)
  have H := Lib.hid s2
  have HN := Lib.hid ((n1.trans n2))
  clear s1 n1 s2 n2
  have hne : ¬ (c = 1) := by omega
  have hne2 : ¬ (1 = c) := by omega
  go_enter Tryz.func124, Tryz.ntmps124
  go_wp2
  go_region
  all_goals
    go_wp2_with (refine upon_clear1 (u := .int .i64 x2) _ g 2 _ ?_ ?_ ?_; (· exact HC.out); (· exact HF.out))
    go_ret
    obtain ⟨a1, b1⟩ := H.out.stored 2 0
    exact ⟨rfl, a1.shrink (k := 2) (by omega), (HN.out.trans b1).drewD⟩
set_option maxRecDepth 100000 in
set_option maxHeartbeats 2000000 in
theorem delete5_31 (g c : Nat) (x0 x1 x2 : Int) (w : World) (h : OwnI w g (g + 1) (.slice (some ⟨g, 0, none⟩) 3 c) [x0, x1, x2]) (hc : 3 ≤ c) :
    Calls Tryz.prog 124 #[.slice (some ⟨g, 0, none⟩) 3 c, .int .i64 1, .int .i64 2] w fun e w' => e = .returned (.slice (some ⟨g, 0, none⟩) 2 c) ∧ OwnI w' g (g + 1) (.slice (some ⟨g, 0, none⟩) 2 c) [x0, x2] ∧ Only g (g + 1) w w' := by
  have c0 : w.cell? ⟨g, 0, none⟩ = some (.int .i64 x0) := h.cellAt 0 (by omega)
  have f0 := h.frozenAt 0
  have c1 : w.cell? ⟨g, 1, none⟩ = some (.int .i64 x1) := h.cellAt 1 (by omega)
  have f1 := h.frozenAt 1
  have c2 : w.cell? ⟨g, 2, none⟩ = some (.int .i64 x2) := h.cellAt 2 (by omega)
  have f2 := h.frozenAt 2
  obtain ⟨s1, n1⟩ := h.stored 1 x2
  have HC := Lib.hid (s1.cellAt 2 (by omega))
  have HF := Lib.hid (s1.frozenAt 2)
  have H := Lib.hid s1
  have HN := Lib.hid (n1)
  clear s1 n1
  have hne : ¬ (c = 2) := by omega
  have hne2 : ¬ (2 = c) := by omega
  go_enter Tryz.func124, Tryz.ntmps124
  go_wp2
  go_region
  all_goals
    go_wp2_with (refine upon_clear1 (u := .int .i64 x2) _ g 2 _ ?_ ?_ ?_; (· exact HC.out); (· exact HF.out))
    go_ret
    obtain ⟨a1, b1⟩ := H.out.stored 2 0
    exact ⟨rfl, a1.shrink (k := 2) (by omega), (HN.out.trans b1).drewD⟩
set_option maxRecDepth 100000 in
set_option maxHeartbeats 2000000 in
theorem delete5_32 (g c : Nat) (x0 x1 x2 : Int) (w : World) (h : OwnI w g (g + 1) (.slice (some ⟨g, 0, none⟩) 3 c) [x0, x1, x2]) (hc : 3 ≤ c) :
    Calls Tryz.prog 124 #[.slice (some ⟨g, 0, none⟩) 3 c, .int .i64 2, .int .i64 3] w fun e w' => e = .returned (.slice (some ⟨g, 0, none⟩) 2 c) ∧ OwnI w' g (g + 1) (.slice (some ⟨g, 0, none⟩) 2 c) [x0, x1] ∧ Only g (g + 1) w w' := by
  have c0 : w.cell? ⟨g, 0, none⟩ = some (.int .i64 x0) := h.cellAt 0 (by omega)
  have f0 := h.frozenAt 0
  have c1 : w.cell? ⟨g, 1, none⟩ = some (.int .i64 x1) := h.cellAt 1 (by omega)
  have f1 := h.frozenAt 1
  have c2 : w.cell? ⟨g, 2, none⟩ = some (.int .i64 x2) := h.cellAt 2 (by omega)
  have f2 := h.frozenAt 2
  have HC := Lib.hid (h.cellAt 2 (by omega))
  have HF := Lib.hid (h.frozenAt 2)
  have H := Lib.hid h
  have HN := Lib.hid (Only.refl g (g + 1) w)
  by_cases hne : c = 3
  · have hne2 : 3 = c := hne.symm
    subst hne
    go_enter Tryz.func124, Tryz.ntmps124
    go_wp2
    go_region
    all_goals
      go_wp2_with (refine upon_clear1 (u := .int .i64 x2) _ g 2 _ ?_ ?_ ?_; (· exact HC.out); (· exact HF.out))
      go_ret
      obtain ⟨a1, b1⟩ := H.out.stored 2 0
      exact ⟨rfl, a1.shrink (k := 2) (by omega), (HN.out.trans b1).drewD⟩
  · have hne2 : ¬ (3 = c) := fun e => hne e.symm
    go_enter Tryz.func124, Tryz.ntmps124
    go_wp2
    go_region
    all_goals
      go_wp2_with (refine upon_clear1 (u := .int .i64 x2) _ g 2 _ ?_ ?_ ?_; (· exact HC.out); (· exact HF.out))
      go_ret
      obtain ⟨a1, b1⟩ := H.out.stored 2 0
      exact ⟨rfl, a1.shrink (k := 2) (by omega), (HN.out.trans b1).drewD⟩
set_option maxRecDepth 100000 in
set_option maxHeartbeats 2000000 in
theorem delete5_40 (g c : Nat) (x0 x1 x2 x3 : Int) (w : World) (h : OwnI w g (g + 1) (.slice (some ⟨g, 0, none⟩) 4 c) [x0, x1, x2, x3]) (hc : 4 ≤ c) :
    Calls Tryz.prog 124 #[.slice (some ⟨g, 0, none⟩) 4 c, .int .i64 0, .int .i64 1] w fun e w' => e = .returned (.slice (some ⟨g, 0, none⟩) 3 c) ∧ OwnI w' g (g + 1) (.slice (some ⟨g, 0, none⟩) 3 c) [x1, x2, x3] ∧ Only g (g + 1) w w' := by
  have c0 : w.cell? ⟨g, 0, none⟩ = some (.int .i64 x0) := h.cellAt 0 (by omega)
  have f0 := h.frozenAt 0
  have c1 : w.cell? ⟨g, 1, none⟩ = some (.int .i64 x1) := h.cellAt 1 (by omega)
  have f1 := h.frozenAt 1
  have c2 : w.cell? ⟨g, 2, none⟩ = some (.int .i64 x2) := h.cellAt 2 (by omega)
  have f2 := h.frozenAt 2
  have c3 : w.cell? ⟨g, 3, none⟩ = some (.int .i64 x3) := h.cellAt 3 (by omega)
  have f3 := h.frozenAt 3
  obtain ⟨s1, n1⟩ := h.stored 0 x1
  obtain ⟨s2, n2⟩ := s1.stored 1 x2
  obtain ⟨s3, n3⟩ := s2.stored 2 x3
  have HC := Lib.hid (s3.cellAt 3 (by omega))
  have HF := Lib.hid (s3.frozenAt 3)
  have H := Lib.hid s3
  have HN := Lib.hid (((n1.trans n2).trans n3))
  clear s1 n1 s2 n2 s3 n3
  have hne : ¬ (c = 1) := by omega
  have hne2 : ¬ (1 = c) := by omega
  go_enter Tryz.func124, Tryz.ntmps124
  go_wp2
  go_region
  all_goals
    go_wp2_with (refine upon_clear1 (u := .int .i64 x3) _ g 3 _ ?_ ?_ ?_; (· exact HC.out); (· exact HF.out))
    go_ret
    obtain ⟨a1, b1⟩ := H.out.stored 3 0
    exact ⟨rfl, a1.shrink (k := 3) (by omega), (HN.out.trans b1).drewD⟩
set_option maxRecDepth 100000 in
set_option maxHeartbeats 2000000 in
theorem delete5_41 (g c : Nat) (x0 x1 x2 x3 : Int) (w : World) (h : OwnI w g (g + 1) (.slice (some ⟨g, 0, none⟩) 4 c) [x0, x1, x2, x3]) (hc : 4 ≤ c) :
    Calls Tryz.prog 124 #[.slice (some ⟨g, 0, none⟩) 4 c, .int .i64 1, .int .i64 2] w fun e w' => e = .returned (.slice (some ⟨g, 0, none⟩) 3 c) ∧ OwnI w' g (g + 1) (.slice (some ⟨g, 0, none⟩) 3 c) [x0, x2, x3] ∧ Only g (g + 1) w w' := by
  have c0 : w.cell? ⟨g, 0, none⟩ = some (.int .i64 x0) := h.cellAt 0 (by omega)
  have f0 := h.frozenAt 0
  have c1 : w.cell? ⟨g, 1, none⟩ = some (.int .i64 x1) := h.cellAt 1 (by omega)
  have f1 := h.frozenAt 1
  have c2 : w.cell? ⟨g, 2, none⟩ = some (.int .i64 x2) := h.cellAt 2 (by omega)
  have f2 := h.frozenAt 2
  have c3 : w.cell? ⟨g, 3, none⟩ = some (.int .i64 x3) := h.cellAt 3 (by omega)
  have f3 := h.frozenAt 3
  obtain ⟨s1, n1⟩ := h.stored 1 x2
  obtain ⟨s2, n2⟩ := s1.stored 2 x3
  have HC := Lib.hid (s2.cellAt 3 (by omega))
  have HF := Lib.hid (s2.frozenAt 3)
  have H := Lib.hid s2
  have HN := Lib.hid ((n1.trans n2))
  clear s1 n1 s2 n2
  have hne : ¬ (c = 2) := by omega
  have hne2 : ¬ (2 = c) := by omega
  go_enter Tryz.func124, Tryz.ntmps124
  go_wp2
  go_region
  all_goals
    go_wp2_with (refine upon_clear1 (u := .int .i64 x3) _ g 3 _ ?_ ?_ ?_; (· exact HC.out); (· exact HF.out))
    go_ret
    obtain ⟨a1, b1⟩ := H.out.stored 3 0
    exact ⟨rfl, a1.shrink (k := 3) (by omega), (HN.out.trans b1).drewD⟩
set_option maxRecDepth 100000 in
set_option maxHeartbeats 2000000 in
theorem delete5_42 (g c : Nat) (x0 x1 x2 x3 : Int) (w : World) (h : OwnI w g (g + 1) (.slice (some ⟨g, 0, none⟩) 4 c) [x0, x1, x2, x3]) (hc : 4 ≤ c) :
    Calls Tryz.prog 124 #[.slice (some ⟨g, 0, none⟩) 4 c, .int .i64 2, .int .i64 3] w fun e w' => e = .returned (.slice (some ⟨g, 0, none⟩) 3 c) ∧ OwnI w' g (g + 1) (.slice (some ⟨g, 0, none⟩) 3 c) [x0, x1, x3] ∧ Only g (g + 1) w w' := by
  have c0 : w.cell? ⟨g, 0, none⟩ = some (.int .i64 x0) := h.cellAt 0 (by omega)
  have f0 := h.frozenAt 0
  have c1 : w.cell? ⟨g, 1, none⟩ = some (.int .i64 x1) := h.cellAt 1 (by omega)
  have f1 := h.frozenAt 1
  have c2 : w.cell? ⟨g, 2, none⟩ = some (.int .i64 x2) := h.cellAt 2 (by omega)
  have f2 := h.frozenAt 2
  have c3 : w.cell? ⟨g, 3, none⟩ = some (.int .i64 x3) := h.cellAt 3 (by omega)
  have f3 := h.frozenAt 3
  obtain ⟨s1, n1⟩ := h.stored 2 x3
  have HC := Lib.hid (s1.cellAt 3 (by omega))
  have HF := Lib.hid (s1.frozenAt 3)
  have H := Lib.hid s1
  have HN := Lib.hid (n1)
  clear s1 n1
  have hne : ¬ (c = 3) := by omega
  have hne2 : ¬ (3 = c) := by omega
  go_enter Tryz.func124, Tryz.ntmps124
  go_wp2
  go_region
  all_goals
    go_wp2_with (refine upon_clear1 (u := .int .i64 x3) _ g 3 _ ?_ ?_ ?_; (· exact HC.out); (· exact HF.out))
    go_ret
    obtain ⟨a1, b1⟩ := H.out.stored 3 0
    exact ⟨rfl, a1.shrink (k := 3) (by omega), (HN.out.trans b1).drewD⟩
set_option maxRecDepth 100000 in
set_option maxHeartbeats 2000000 in
theorem delete5_43 (g c : Nat) (x0 x1 x2 x3 : Int) (w : World) (h : OwnI w g (g + 1) (.slice (some ⟨g, 0, none⟩) 4 c) [x0, x1, x2, x3]) (hc : 4 ≤ c) :
    Calls Tryz.prog 124 #[.slice (some ⟨g, 0, none⟩) 4 c, .int .i64 3, .int .i64 4] w fun e w' => e = .returned (.slice (some ⟨g, 0, none⟩) 3 c) ∧ OwnI w' g (g + 1) (.slice (some ⟨g, 0, none⟩) 3 c) [x0, x1, x2] ∧ Only g (g + 1) w w' := by
  have c0 : w.cell? ⟨g, 0, none⟩ = some (.int .i64 x0) := h.cellAt 0 (by omega)
  have f0 := h.frozenAt 0
  have c1 : w.cell? ⟨g, 1, none⟩ = some (.int .i64 x1) := h.cellAt 1 (by omega)
  have f1 := h.frozenAt 1
  have c2 : w.cell? ⟨g, 2, none⟩ = some (.int .i64 x2) := h.cellAt 2 (by omega)
  have f2 := h.frozenAt 2
  have c3 : w.cell? ⟨g, 3, none⟩ = some (.int .i64 x3) := h.cellAt 3 (by omega)
  have f3 := h.frozenAt 3
  have HC := Lib.hid (h.cellAt 3 (by omega))
  have HF := Lib.hid (h.frozenAt 3)
  have H := Lib.hid h
  have HN := Lib.hid (Only.refl g (g + 1) w)
  by_cases hne : c = 4
  · have hne2 : 4 = c := hne.symm
    subst hne
    go_enter Tryz.func124, Tryz.ntmps124
    go_wp2
    go_region
    all_goals
      go_wp2_with (refine upon_clear1 (u := .int .i64 x3) _ g 3 _ ?_ ?_ ?_; (· exact HC.out); (· exact HF.out))
      go_ret
      obtain ⟨a1, b1⟩ := H.out.stored 3 0
      exact ⟨rfl, a1.shrink (k := 3) (by omega), (HN.out.trans b1).drewD⟩
  · have hne2 : ¬ (4 = c) := fun e => hne e.symm
    go_enter Tryz.func124, Tryz.ntmps124
    go_wp2
    go_region
    all_goals
      go_wp2_with (refine upon_clear1 (u := .int .i64 x3) _ g 3 _ ?_ ?_ ?_; (· exact HC.out); (· exact HF.out))
      go_ret
      obtain ⟨a1, b1⟩ := H.out.stored 3 0
      exact ⟨rfl, a1.shrink (k := 3) (by omega), (HN.out.trans b1).drewD⟩
set_option maxRecDepth 100000 in
set_option maxHeartbeats 2000000 in
theorem delete5_50 (g c : Nat) (x0 x1 x2 x3 x4 : Int) (w : World) (h : OwnI w g (g + 1) (.slice (some ⟨g, 0, none⟩) 5 c) [x0, x1, x2, x3, x4]) (hc : 5 ≤ c) :
    Calls Tryz.prog 124 #[.slice (some ⟨g, 0, none⟩) 5 c, .int .i64 0, .int .i64 1] w fun e w' => e = .returned (.slice (some ⟨g, 0, none⟩) 4 c) ∧ OwnI w' g (g + 1) (.slice (some ⟨g, 0, none⟩) 4 c) [x1, x2, x3, x4] ∧ Only g (g + 1) w w' := by
  have c0 : w.cell? ⟨g, 0, none⟩ = some (.int .i64 x0) := h.cellAt 0 (by omega)
  have f0 := h.frozenAt 0
  have c1 : w.cell? ⟨g, 1, none⟩ = some (.int .i64 x1) := h.cellAt 1 (by omega)
  have f1 := h.frozenAt 1
  have c2 : w.cell? ⟨g, 2, none⟩ = some (.int .i64 x2) := h.cellAt 2 (by omega)
  have f2 := h.frozenAt 2
  have c3 : w.cell? ⟨g, 3, none⟩ = some (.int .i64 x3) := h.cellAt 3 (by omega)
  have f3 := h.frozenAt 3
  have c4 : w.cell? ⟨g, 4, none⟩ = some (.int .i64 x4) := h.cellAt 4 (by omega)
  have f4 := h.frozenAt 4
  obtain ⟨s1, n1⟩ := h.stored 0 x1
  obtain ⟨s2, n2⟩ := s1.stored 1 x2
  obtain ⟨s3, n3⟩ := s2.stored 2 x3
  obtain ⟨s4, n4⟩ := s3.stored 3 x4
  have HC := Lib.hid (s4.cellAt 4 (by omega))
  have HF := Lib.hid (s4.frozenAt 4)
  have H := Lib.hid s4
  have HN := Lib.hid ((((n1.trans n2).trans n3).trans n4))
  clear s1 n1 s2 n2 s3 n3 s4 n4
  have hne : ¬ (c = 1) := by omega
  have hne2 : ¬ (1 = c) := by omega
  go_enter Tryz.func124, Tryz.ntmps124
  go_wp2
  go_region
  all_goals
    go_wp2_with (refine upon_clear1 (u := .int .i64 x4) _ g 4 _ ?_ ?_ ?_; (· exact HC.out); (· exact HF.out))
    go_ret
    obtain ⟨a1, b1⟩ := H.out.stored 4 0
    exact ⟨rfl, a1.shrink (k := 4) (by omega), (HN.out.trans b1).drewD⟩
set_option maxRecDepth 100000 in
set_option maxHeartbeats 2000000 in
theorem delete5_51 (g c : Nat) (x0 x1 x2 x3 x4 : Int) (w : World) (h : OwnI w g (g + 1) (.slice (some ⟨g, 0, none⟩) 5 c) [x0, x1, x2, x3, x4]) (hc : 5 ≤ c) :
    Calls Tryz.prog 124 #[.slice (some ⟨g, 0, none⟩) 5 c, .int .i64 1, .int .i64 2] w fun e w' => e = .returned (.slice (some ⟨g, 0, none⟩) 4 c) ∧ OwnI w' g (g + 1) (.slice (some ⟨g, 0, none⟩) 4 c) [x0, x2, x3, x4] ∧ Only g (g + 1) w w' := by
  have c0 : w.cell? ⟨g, 0, none⟩ = some (.int .i64 x0) := h.cellAt 0 (by omega)
  have f0 := h.frozenAt 0
  have c1 : w.cell? ⟨g, 1, none⟩ = some (.int .i64 x1) := h.cellAt 1 (by omega)
  have f1 := h.frozenAt 1
  have c2 : w.cell? ⟨g, 2, none⟩ = some (.int .i64 x2) := h.cellAt 2 (by omega)
  have f2 := h.frozenAt 2
  have c3 : w.cell? ⟨g, 3, none⟩ = some (.int .i64 x3) := h.cellAt 3 (by omega)
  have f3 := h.frozenAt 3
  have c4 : w.cell? ⟨g, 4, none⟩ = some (.int .i64 x4) := h.cellAt 4 (by omega)
  have f4 := h.frozenAt 4
  obtain ⟨s1, n1⟩ := h.stored 1 x2
  obtain ⟨s2, n2⟩ := s1.stored 2 x3
  obtain ⟨s3, n3⟩ := s2.stored 3 x4
  have HC := Lib.hid (s3.cellAt 4 (by omega))
  have HF := Lib.hid (s3.frozenAt 4)
  have H := Lib.hid s3
  have HN := Lib.hid (((n1.trans n2).trans n3))
  clear s1 n1 s2 n2 s3 n3
  have hne : ¬ (c = 2) := by omega
  have hne2 : ¬ (2 = c) := by omega
  go_enter Tryz.func124, Tryz.ntmps124
  go_wp2
  go_region
  all_goals
    go_wp2_with (refine upon_clear1 (u := .int .i64 x4) _ g 4 _ ?_ ?_ ?_; (· exact HC.out); (· exact HF.out))
    go_ret
    obtain ⟨a1, b1⟩ := H.out.stored 4 0
    exact ⟨rfl, a1.shrink (k := 4) (by omega), (HN.out.trans b1).drewD⟩
set_option maxRecDepth 100000 in
set_option maxHeartbeats 2000000 in
theorem delete5_52 (g c : Nat) (x0 x1 x2 x3 x4 : Int) (w : World) (h : OwnI w g (g + 1) (.slice (some ⟨g, 0, none⟩) 5 c) [x0, x1, x2, x3, x4]) (hc : 5 ≤ c) :
    Calls Tryz.prog 124 #[.slice (some ⟨g, 0, none⟩) 5 c, .int .i64 2, .int .i64 3] w fun e w' => e = .returned (.slice (some ⟨g, 0, none⟩) 4 c) ∧ OwnI w' g (g + 1) (.slice (some ⟨g, 0, none⟩) 4 c) [x0, x1, x3, x4] ∧ Only g (g + 1) w w' := by
  have c0 : w.cell? ⟨g, 0, none⟩ = some (.int .i64 x0) := h.cellAt 0 (by omega)
  have f0 := h.frozenAt 0
  have c1 : w.cell? ⟨g, 1, none⟩ = some (.int .i64 x1) := h.cellAt 1 (by omega)
  have f1 := h.frozenAt 1
  have c2 : w.cell? ⟨g, 2, none⟩ = some (.int .i64 x2) := h.cellAt 2 (by omega)
  have f2 := h.frozenAt 2
  have c3 : w.cell? ⟨g, 3, none⟩ = some (.int .i64 x3) := h.cellAt 3 (by omega)
  have f3 := h.frozenAt 3
  have c4 : w.cell? ⟨g, 4, none⟩ = some (.int .i64 x4) := h.cellAt 4 (by omega)
  have f4 := h.frozenAt 4
  obtain ⟨s1, n1⟩ := h.stored 2 x3
  obtain ⟨s2, n2⟩ := s1.stored 3 x4
  have HC := Lib.hid (s2.cellAt 4 (by omega))
  have HF := Lib.hid (s2.frozenAt 4)
  have H := Lib.hid s2
  have HN := Lib.hid ((n1.trans n2))
  clear s1 n1 s2 n2
  have hne : ¬ (c = 3) := by omega
  have hne2 : ¬ (3 = c) := by omega
  go_enter Tryz.func124, Tryz.ntmps124
  go_wp2
  go_region
  all_goals
    go_wp2_with (refine upon_clear1 (u := .int .i64 x4) _ g 4 _ ?_ ?_ ?_; (· exact HC.out); (· exact HF.out))
    go_ret
    obtain ⟨a1, b1⟩ := H.out.stored 4 0
    exact ⟨rfl, a1.shrink (k := 4) (by omega), (HN.out.trans b1).drewD⟩
set_option maxRecDepth 100000 in
set_option maxHeartbeats 2000000 in
theorem delete5_53 (g c : Nat) (x0 x1 x2 x3 x4 : Int) (w : World) (h : OwnI w g (g + 1) (.slice (some ⟨g, 0, none⟩) 5 c) [x0, x1, x2, x3, x4]) (hc : 5 ≤ c) :
    Calls Tryz.prog 124 #[.slice (some ⟨g, 0, none⟩) 5 c, .int .i64 3, .int .i64 4] w fun e w' => e = .returned (.slice (some ⟨g, 0, none⟩) 4 c) ∧ OwnI w' g (g + 1) (.slice (some ⟨g, 0, none⟩) 4 c) [x0, x1, x2, x4] ∧ Only g (g + 1) w w' := by
  have c0 : w.cell? ⟨g, 0, none⟩ = some (.int .i64 x0) := h.cellAt 0 (by omega)
  have f0 := h.frozenAt 0
  have c1 : w.cell? ⟨g, 1, none⟩ = some (.int .i64 x1) := h.cellAt 1 (by omega)
  have f1 := h.frozenAt 1
  have c2 : w.cell? ⟨g, 2, none⟩ = some (.int .i64 x2) := h.cellAt 2 (by omega)
  have f2 := h.frozenAt 2
  have c3 : w.cell? ⟨g, 3, none⟩ = some (.int .i64 x3) := h.cellAt 3 (by omega)
  have f3 := h.frozenAt 3
  have c4 : w.cell? ⟨g, 4, none⟩ = some (.int .i64 x4) := h.cellAt 4 (by omega)
  have f4 := h.frozenAt 4
  obtain ⟨s1, n1⟩ := h.stored 3 x4
  have HC := Lib.hid (s1.cellAt 4 (by omega))
  have HF := Lib.hid (s1.frozenAt 4)
  have H := Lib.hid s1
  have HN := Lib.hid (n1)
  clear s1 n1
  have hne : ¬ (c = 4) := by omega
  have hne2 : ¬ (4 = c) := by omega
  go_enter Tryz.func124, Tryz.ntmps124
  go_wp2
  go_region
  all_goals
    go_wp2_with (refine upon_clear1 (u := .int .i64 x4) _ g 4 _ ?_ ?_ ?_; (· exact HC.out); (· exact HF.out))
    go_ret
    obtain ⟨a1, b1⟩ := H.out.stored 4 0
    exact ⟨rfl, a1.shrink (k := 4) (by omega), (HN.out.trans b1).drewD⟩
set_option maxRecDepth 100000 in
set_option maxHeartbeats 2000000 in
theorem delete5_54 (g c : Nat) (x0 x1 x2 x3 x4 : Int) (w : World) (h : OwnI w g (g + 1) (.slice (some ⟨g, 0, none⟩) 5 c) [x0, x1, x2, x3, x4]) (hc : 5 ≤ c) :
    Calls Tryz.prog 124 #[.slice (some ⟨g, 0, none⟩) 5 c, .int .i64 4, .int .i64 5] w fun e w' => e = .returned (.slice (some ⟨g, 0, none⟩) 4 c) ∧ OwnI w' g (g + 1) (.slice (some ⟨g, 0, none⟩) 4 c) [x0, x1, x2, x3] ∧ Only g (g + 1) w w' := by
  have c0 : w.cell? ⟨g, 0, none⟩ = some (.int .i64 x0) := h.cellAt 0 (by omega)
  have f0 := h.frozenAt 0
  have c1 : w.cell? ⟨g, 1, none⟩ = some (.int .i64 x1) := h.cellAt 1 (by omega)
  have f1 := h.frozenAt 1
  have c2 : w.cell? ⟨g, 2, none⟩ = some (.int .i64 x2) := h.cellAt 2 (by omega)
  have f2 := h.frozenAt 2
  have c3 : w.cell? ⟨g, 3, none⟩ = some (.int .i64 x3) := h.cellAt 3 (by omega)
  have f3 := h.frozenAt 3
  have c4 : w.cell? ⟨g, 4, none⟩ = some (.int .i64 x4) := h.cellAt 4 (by omega)
  have f4 := h.frozenAt 4
  have HC := Lib.hid (h.cellAt 4 (by omega))
  have HF := Lib.hid (h.frozenAt 4)
  have H := Lib.hid h
  have HN := Lib.hid (Only.refl g (g + 1) w)
  by_cases hne : c = 5
  · have hne2 : 5 = c := hne.symm
    subst hne
    go_enter Tryz.func124, Tryz.ntmps124
    go_wp2
    go_region
    all_goals
      go_wp2_with (refine upon_clear1 (u := .int .i64 x4) _ g 4 _ ?_ ?_ ?_; (· exact HC.out); (· exact HF.out))
      go_ret
      obtain ⟨a1, b1⟩ := H.out.stored 4 0
      exact ⟨rfl, a1.shrink (k := 4) (by omega), (HN.out.trans b1).drewD⟩
  · have hne2 : ¬ (5 = c) := fun e => hne e.symm
    go_enter Tryz.func124, Tryz.ntmps124
    go_wp2
    go_region
    all_goals
      go_wp2_with (refine upon_clear1 (u := .int .i64 x4) _ g 4 _ ?_ ?_ ?_; (· exact HC.out); (· exact HF.out))
      go_ret
      obtain ⟨a1, b1⟩ := H.out.stored 4 0
      exact ⟨rfl, a1.shrink (k := 4) (by omega), (HN.out.trans b1).drewD⟩
theorem delete5_any (g c n i : Nat) (xs : List Int) (w : World) (h : OwnI w g (g + 1) (.slice (some ⟨g, 0, none⟩) n c) xs) (hn : n ≤ 5) (hi : i < n) :
    Calls Tryz.prog 124 #[.slice (some ⟨g, 0, none⟩) n c, .int .i64 (i : Int), .int .i64 ((i : Int) + 1)] w fun e w' => e = .returned (.slice (some ⟨g, 0, none⟩) (n - 1) c) ∧ OwnI w' g (g + 1) (.slice (some ⟨g, 0, none⟩) (n - 1) c) (xs.eraseIdx i) ∧ Only g (g + 1) w w' := by
  obtain ⟨_, rfl, hc, _⟩ := h.ints
  by_cases e1 : xs.length = 1
  · obtain ⟨x0, rfl⟩ : ∃ x0, xs = [x0] := by
      match xs, e1 with
      | [x0], _ => exact ⟨x0, rfl⟩
    obtain rfl : i = 0 := by have : i < 1 := hi; omega
    · exact delete5_10 g c x0 w h hc
  by_cases e2 : xs.length = 2
  · obtain ⟨x0, x1, rfl⟩ : ∃ x0 x1, xs = [x0, x1] := by
      match xs, e2 with
      | [x0, x1], _ => exact ⟨x0, x1, rfl⟩
    obtain rfl | rfl : i = 0 ∨ i = 1 := by have : i < 2 := hi; omega
    · exact delete5_20 g c x0 x1 w h hc
    · exact delete5_21 g c x0 x1 w h hc
  by_cases e3 : xs.length = 3
  · obtain ⟨x0, x1, x2, rfl⟩ : ∃ x0 x1 x2, xs = [x0, x1, x2] := by
      match xs, e3 with
      | [x0, x1, x2], _ => exact ⟨x0, x1, x2, rfl⟩
    obtain rfl | rfl | rfl : i = 0 ∨ i = 1 ∨ i = 2 := by have : i < 3 := hi; omega
    · exact delete5_30 g c x0 x1 x2 w h hc
    · exact delete5_31 g c x0 x1 x2 w h hc
    · exact delete5_32 g c x0 x1 x2 w h hc
  by_cases e4 : xs.length = 4
  · obtain ⟨x0, x1, x2, x3, rfl⟩ : ∃ x0 x1 x2 x3, xs = [x0, x1, x2, x3] := by
      match xs, e4 with
      | [x0, x1, x2, x3], _ => exact ⟨x0, x1, x2, x3, rfl⟩
    obtain rfl | rfl | rfl | rfl : i = 0 ∨ i = 1 ∨ i = 2 ∨ i = 3 := by have : i < 4 := hi; omega
    · exact delete5_40 g c x0 x1 x2 x3 w h hc
    · exact delete5_41 g c x0 x1 x2 x3 w h hc
    · exact delete5_42 g c x0 x1 x2 x3 w h hc
    · exact delete5_43 g c x0 x1 x2 x3 w h hc
  by_cases e5 : xs.length = 5
  · obtain ⟨x0, x1, x2, x3, x4, rfl⟩ : ∃ x0 x1 x2 x3 x4, xs = [x0, x1, x2, x3, x4] := by
      match xs, e5 with
      | [x0, x1, x2, x3, x4], _ => exact ⟨x0, x1, x2, x3, x4, rfl⟩
    obtain rfl | rfl | rfl | rfl | rfl : i = 0 ∨ i = 1 ∨ i = 2 ∨ i = 3 ∨ i = 4 := by have : i < 5 := hi; omega
    · exact delete5_50 g c x0 x1 x2 x3 x4 w h hc
    · exact delete5_51 g c x0 x1 x2 x3 x4 w h hc
    · exact delete5_52 g c x0 x1 x2 x3 x4 w h hc
    · exact delete5_53 g c x0 x1 x2 x3 x4 w h hc
    · exact delete5_54 g c x0 x1 x2 x3 x4 w h hc
  omega
end Go.Proofs.YtaanppihgldeaaaGreatDoor
namespace Go.Proofs.YtaanppihgldeaaaGreatDoor
set_option linter.unusedSimpArgs false
set_option linter.unusedVariables false
set_option linter.unusedVariables false
open Go.RowKit

def upE (m : Nat) : List Int := (List.range m).map fun (j : Nat) => (j : Int)
theorem upE_len (m : Nat) : (upE m).length = m := by simp [upE]
theorem upE_any (p : Int → Bool) (n : Nat) : (upE n).any p = !allN (fun j => !p (j : Int)) n := by
  induction n with
  | zero => rfl
  | succ n ih =>
    have e : upE (n + 1) = upE n ++ [(n : Int)] := by unfold upE; rw [List.range_succ, List.map_append]; rfl
    rw [e, List.any_append, ih, allN, List.any_cons, List.any_nil]
    generalize allN (fun j => !p (j : Int)) n = a
    generalize p (n : Int) = b
    cases a <;> cases b <;> rfl
theorem upE_mem {n : Nat} {x : Int} (h : x ∈ upE n) : ∃ j : Nat, j < n ∧ x = (j : Int) := by
  unfold upE at h
  obtain ⟨j, hj, e⟩ := List.mem_map.1 h
  exact ⟨j, List.mem_range.1 hj, e.symm⟩
set_option maxHeartbeats 800000 in
theorem upE_set {n k : Nat} (h : k < n) : (upE k ++ List.replicate (n - k) 0).set k (k : Int) = upE (k + 1) ++ List.replicate (n - (k + 1)) 0 := by
  have hl : (upE k).length = k := by simp [upE]
  rw [List.set_append_right _ _ (by omega), hl, Nat.sub_self, show n - k = (n - (k + 1)) + 1 by omega, List.replicate_succ, List.set_cons_zero]
  unfold upE
  rw [List.range_succ, List.map_append, List.append_assoc]
  rfl
set_option maxHeartbeats 800000 in
theorem indicesE_any (n : Nat) (w : World) (hn : n ≤ 1048576) :
    Calls Tryz.prog 118 #[.int .i64 (n : Int)] w fun e w' => ∃ A' c', e = .returned (.slice A' n c') ∧ OwnI w' w.heap.size w'.heap.size (.slice A' n c') (upE n) ∧ Below w.heap.size w w' := by
  go_enter Tryz.func118, Tryz.ntmps118
  go_wp2_with ((with_reducible refine wpList_make_ints _ rfl _ _ rfl n rfl rfl (by omega) ?_))
  intro w2 ho hb hs
  have z := hb.size
  have e0 : List.replicate n (0 : Int) = upE 0 ++ List.replicate (n - 0) 0 := by simp [upE]
  rw [e0] at ho
  have HS := Lib.hid hs
  clear e0 hs
  go_wp2
  go_loopw [4, 9] (fun _ i wr => ∃ k : Nat, k ≤ n ∧ i = .int .i64 k ∧ OwnI wr w.heap.size (w.heap.size + 1) (.slice (some ⟨w.heap.size, 0, none⟩) n n) (upE k ++ List.replicate (n - k) 0) ∧ Below w.heap.size w wr) (fun _ i _ => n - (intOf i).toNat)
  case atStart => exact ⟨0, Nat.zero_le _, rfl, ho, hb⟩
  case round =>
    obtain ⟨k, hk, rfl, hown, hbr⟩ := hrel
    have zr := hbr.size
    by_cases hlt : k < n
    · have ck := hown.cellAt k hlt
      have fk := hown.frozenAt k
      obtain ⟨ho2, hon⟩ := hown.stored k (k : Int)
      rw [upE_set hlt] at ho2
      have hb2 := hbr.trans (hon.toBelow (Nat.le_refl _) zr)
      clear hon hown hbr
      go_wp2
      go_roundw
      case rel => exact ⟨k + 1, by omega, by go_num, ho2, hb2⟩
      case measure => simp [intOf]; omega
    · obtain rfl : k = n := by omega
      have e : upE k ++ List.replicate (k - k) (0 : Int) = upE k := by simp
      rw [e] at hown
      have := hown.num.2.1
      go_wp2
      go_ret
      exact ⟨_, _, rfl, hown.mono (Nat.le_refl _) (by omega), hbr⟩
end Go.Proofs.YtaanppihgldeaaaGreatDoor
