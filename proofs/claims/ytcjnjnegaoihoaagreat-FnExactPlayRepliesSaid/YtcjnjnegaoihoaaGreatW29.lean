/- A profile in new memory, the reference's side: l04Copy. WithRanking, the reference's side. l10Reply, the reference's side. l10Rule, the reference's side. -/
import Derived.Test.YtcjnjnegaoihoaaGreatW17
import Derived.Test.YtcjnjnegaoihoaaGreatW19
import Derived.Test.YtcjnjnegaoihoaaGreatW24
import Derived.Test.YtcjnjnegaoihoaaGreatW28
namespace Go.Proofs.YtcjnjnegaoihoaaGreat
set_option linter.unusedSimpArgs false
set_option linter.unusedVariables false
set_option linter.unusedVariables false
open Go.RowKit

section
variable {ops : Array Oper} {o : Oper} {a : Act} {Q : Exit → Act → World → Prop}
/-- 'append(xs, ys...)' inside a region that draws, ys not nil -/
theorem step_append_ints {K : Act → World → Prop} {E : Prop} (w : World) (hgd : o.guard = none) (s x : Operand) (hop : o.op = Op.call { callee := Callee.builtin Builtin.append, args := #[s, x], argTypes := #[26, 26] })
    (lo hi n c : Nat) (A : Option Addr) (xs : List Int) (hs : a.eval s = .slice A n c) (hown : OwnI w lo hi (.slice A n c) xs)
    (b oo m cc : Nat) (ys : List Int) (hx : a.eval x = .slice (some ⟨b, oo, none⟩) m cc) (hy : IntsAt w (some ⟨b, oo, none⟩) m ys) (hn : n + m ≤ 1099511627776) (hbase : lo ≤ w.heap.size)
    (hK : ∀ A' c' w', OwnI w' lo w'.heap.size (.slice A' (n + m) c') (xs ++ ys) → Only lo hi w w' → K (a.put o.dst (.slice A' (n + m) c')) w') :
    if Region.wanted o (yielded ops a.tmps) = true then Oper.wp Tryz.prog o a w K Q else E := by
  have hw : Region.wanted o (yielded ops a.tmps) = true := by simp [Region.wanted, hgd]
  rw [if_pos hw]
  obtain ⟨i0, hi0, hz0, hz1, hz2⟩ := info_parts infoI
  obtain rfl := hown.ints.2.1
  obtain rfl := hy.len
  obtain ⟨v', w', hr, hown', hgrow, _, hat⟩ := run_append_own_at (P := Tryz.prog) w lo 26 o.type 3 i0 (.int .i64 0) 1 8 Tryz.underlying26 hi0 hz0 hz1 hz2 rfl (by decide) _ xs.length _ hown.1 ⟨b, oo, none⟩ ys.length cc (ys.map (Value.int .i64)) (by simp)
    (fun j u hj => by
      have hjl : j < ys.length := by
        have := (List.getElem?_eq_some_iff.1 hj).1
        simpa using this
      obtain ⟨b, o', e, hc⟩ := hy.2 (by omega)
      cases e
      rw [Addr.add_lit, hc j hjl, ix_lt hjl]
      simp [hjl] at hj
      rw [hj]) (ints_oneCell _ _) (by unfold maxLen; omega) (by omega) hbase
  have h2 : OwnI w' lo w'.heap.size v' (xs ++ ys) := by
    refine ⟨?_, fun k e => (World.ownsRow.lt hown' k e).2⟩
    rw [List.map_append, List.length_append]
    exact hown'
  obtain ⟨A', c', e, _⟩ := h2.len
  rw [List.length_append] at e
  subst e
  unfold Oper.wp execOp
  simp only [hop, resolve, invoke, builtin, Sem.run_bind, Sem.run_pure, Result.andThen_ok, List.map_toArray, List.map_cons, List.map_nil, hs, hx, hr]
  exact hK A' c' w' h2 (Only.of_grown hgrow (fun k e => hown.block_ge k e))
end
set_option maxRecDepth 100000 in
set_option maxHeartbeats 2000000 in
theorem specCopy (m : Int) (A : Option Addr) (n c : Nat) (vs : List Vt) (w : World) (h : VotesAt w A n vs) (hn : n ≤ 1048576) (hx : ∀ v ∈ vs, 1 ≤ v.r.length ∧ v.r.length ≤ 1048576) :
    Calls Tryz.prog 30 #[.agg #[.int .i64 m, .slice A n c]] w fun e w' => ∃ A' c', e = .returned (.agg #[.int .i64 m, .slice A' n c']) ∧ OwnV w' w.heap.size w'.heap.size (.slice A' n c') vs ∧ Below w.heap.size w w' := by
  have hv0 := h
  obtain rfl := h.len
  have hB := alloc_below w (.cells #[.int .i64 m, .slice A vs.length c] 31)
  obtain ⟨x0, x1⟩ := PBox.new w m A vs.length c 31 rfl
  replace h := h.below hB
  generalize hw0 : w.alloc (.cells #[.int .i64 m, .slice A vs.length c] 31) = w0 at *
  have HX := Lib.hid hx
  clear hx
  have s0 : w0.heap.size = w.heap.size + 1 := by rw [← hw0]; simp
  have b1 := alloc_below w0 (.cells #[.int .i64 0, .slice none 0 0] 31)
  obtain ⟨r0, r1⟩ := PBox.new w0 0 none 0 0 31 s0.symm
  have rf0 := new_free w0 #[.int .i64 0, .slice none 0 0] 31 s0.symm 0
  have rf1 := new_free w0 #[.int .i64 0, .slice none 0 0] 31 s0.symm 1
  replace x0 := cell_carry b1 x0
  replace x1 := cell_carry b1 x1
  replace h := h.below b1
  replace hB := hB.trans (b1.mono hB.size)
  have s1 : (w0.alloc (.cells #[.int .i64 0, .slice none 0 0] 31)).heap.size = w.heap.size + 2 := by simp [s0]
  clear b1
  generalize hw1 : w0.alloc (.cells #[.int .i64 0, .slice none 0 0] 31) = w1 at *
  have b2 := alloc_below w1 (.cells #[.int .i64 m, .slice none 0 0] 31)
  obtain ⟨z0, z1⟩ := PBox.new w1 m none 0 0 31 s1.symm
  have zf1 := new_free w1 #[.int .i64 m, .slice none 0 0] 31 s1.symm 1
  have x0a := x0
  have rf0' := old_free r0 rf0 (.cells #[.int .i64 m, .slice none 0 0] 31)
  have rf1' := old_free r1 rf1 (.cells #[.int .i64 m, .slice none 0 0] 31)
  replace r0 := cell_carry b2 r0
  replace r1 := cell_carry b2 r1
  replace x0 := cell_carry b2 x0
  replace x1 := cell_carry b2 x1
  replace h := h.below b2
  replace hB := hB.trans (b2.mono hB.size)
  have s2 : (w1.alloc (.cells #[.int .i64 m, .slice none 0 0] 31)).heap.size = w.heap.size + 3 := by simp [s1]
  clear b2 rf0 rf1
  generalize hw2 : w1.alloc (.cells #[.int .i64 m, .slice none 0 0] 31) = w2 at *
  go_enter Tryz.func30, Tryz.ntmps30
  go_wp2
  clear hw2 hw1 hw0 x0 x0a x1
  have z1' := World.cell?_setCell_same w2 ⟨w.heap.size + 2, 1, none⟩ (.slice none 0 0) z1
  have z0' := (World.cell?_setCell_other w2 ⟨w.heap.size + 2, 1, none⟩ ⟨w.heap.size + 2, 0, none⟩ (.slice none 0 0) (by simp)).trans z0
  have zf' : (w2.setCell ⟨w.heap.size + 2, 1, none⟩ (.slice none 0 0)).frozen? ⟨w.heap.size + 2, 1, none⟩ = false := by rw [World.frozen?_setCell]; exact zf1
  have hb' : Below (w.heap.size + 2) w2 (w2.setCell ⟨w.heap.size + 2, 1, none⟩ (.slice none 0 0)) := (Below.refl _ _).setCell (p := ⟨w.heap.size + 2, 1, none⟩) (Nat.le_refl _) _
  have zs' : w.heap.size + 3 ≤ (w2.setCell ⟨w.heap.size + 2, 1, none⟩ (.slice none 0 0)).heap.size := by rw [World.size_setCell]; omega
  clear z0 z1 zf1
  go_loopw [5, 12] (fun _ i wr => ∃ (k : Nat) (A1 : Option Addr) (c1 : Nat), k ≤ vs.length ∧ i = .int .i64 k ∧ wr.cell? ⟨w.heap.size + 2, 0, none⟩ = some (.int .i64 m) ∧ wr.cell? ⟨w.heap.size + 2, 1, none⟩ = some (.slice A1 k c1) ∧ wr.frozen? ⟨w.heap.size + 2, 1, none⟩ = false ∧
    OwnV wr (w.heap.size + 3) wr.heap.size (.slice A1 k c1) (vs.take k) ∧ Below (w.heap.size + 2) w2 wr ∧ w.heap.size + 3 ≤ wr.heap.size) (fun _ i _ => vs.length - (intOf i).toNat)
  case atStart => exact ⟨0, none, 0, Nat.zero_le _, rfl, z0', z1', zf', by rw [List.take_zero]; exact OwnV.nil _ _ _, hb', zs'⟩
  case round =>
    clear z0' z1' zf' hb' zs'
    obtain ⟨k, A1, c1, hk, rfl, z0, z1, zf1, hown, hb, zr⟩ := hrel
    have hbw := hB.trans (hb.mono (by omega))
    by_cases hlt : k < vs.length
    · obtain ⟨b, o, A', c', rfl, hbl, hc1, hc2, hcc, hin⟩ := (hv0.below hbw).at_ hlt
      have HT := Lib.hid (take_vx hlt)
      have hxv := HX.out _ (vx_mem hlt)
      obtain ⟨bi, oi, ei, _, _⟩ := hin.at_ (k := 0) (by omega)
      generalize vx vs k = v at *
      subst ei
      have b1 := alloc_below wr (.cells #[.slice (some ⟨bi, oi, none⟩) v.r.length c', .int .i64 v.c] 46)
      obtain ⟨y0, y1⟩ := new_pair wr (.slice (some ⟨bi, oi, none⟩) v.r.length c') (.int .i64 v.c) 46 rfl
      have hin2 := hin.below b1
      have hown2 := hown.belowW b1
      have zf2 := old_free z1 zf1 (.cells #[.slice (some ⟨bi, oi, none⟩) v.r.length c', .int .i64 v.c] 46)
      replace z0 := cell_carry b1 z0
      replace z1 := cell_carry b1 z1
      have hb2 := hb.trans (b1.mono (by omega))
      have zr2 : (wr.alloc (.cells #[.slice (some ⟨bi, oi, none⟩) v.r.length c', .int .i64 v.c] 46)).heap.size = wr.heap.size + 1 := by simp
      have gy : wr.heap.size ≠ w.heap.size + 2 := by omega
      clear b1 hin hown zf1 hb hbw
      generalize hw4 : wr.alloc (.cells #[.slice (some ⟨bi, oi, none⟩) v.r.length c', .int .i64 v.c] 46) = w4 at *
      go_wp2
      clear hw4
      have hin3 : IntsAt w4.drew (some ⟨bi, oi, none⟩) v.r.length v.r := hin2
      have hown3 : OwnV w4.drew (w.heap.size + 3) wr.heap.size (.slice A1 k c1) (vs.take k) := hown2
      have y1d : w4.drew.cell? ⟨wr.heap.size, 1, none⟩ = some (.int .i64 v.c) := y1
      have z0d : w4.drew.cell? ⟨w.heap.size + 2, 0, none⟩ = some (.int .i64 m) := z0
      have z1d : w4.drew.cell? ⟨w.heap.size + 2, 1, none⟩ = some (.slice A1 k c1) := z1
      have zfd : w4.drew.frozen? ⟨w.heap.size + 2, 1, none⟩ = false := zf2
      have h4d : Below (w.heap.size + 2) w2 w4.drew := hb2.drew
      have zrd : w4.drew.heap.size = wr.heap.size + 1 := zr2
      have z1e := old_cell z1 (.cells #[] 3)
      have y0e := old_cell y0 (.cells #[] 3)
      have y1e := old_cell y1 (.cells #[] 3)
      have hE : OwnI (w4.drew.alloc (.cells #[] 3)) (wr.heap.size + 1) (wr.heap.size + 2) (.slice (some ⟨wr.heap.size + 1, 0, none⟩) 0 0) [] := by
        have h := OwnI.empty w4.drew (lo := w4.drew.heap.size) (hi := w4.drew.heap.size + 1) (Nat.le_refl _) (by omega)
        rw [zrd] at h; exact h
      have zE : (w4.drew.alloc (.cells #[] 3)).heap.size = wr.heap.size + 2 := by rw [World.size_alloc, zrd]
      clear hin2 hown2
      go_region_law (first
        | (refine step_append_V _ (by rfl) _ _ (by rfl) (w.heap.size + 3) wr.heap.size k c1 A1 (vs.take k) (by rfl) (hown8.alloc _) A8 v.r.length c8 v.r v.c (wr.heap.size + 1) w8.heap.size (o8.alloc _) (by omega) (by simp) w8.heap.size 1 (by rfl) (new_pair w8 _ _ _ rfl).1 (new_pair w8 _ _ _ rfl).2 (by omega) (by omega) (by simp; omega) ?_; intro A9 c9 w9 ho9 on9; have z1_9 := on9.cell (old_cell z1_8 _) (by show ¬ (_ ≤ w.heap.size + 2 ∧ _); omega); have z0_9 := on9.cell (old_cell z0_8 _) (by show ¬ (_ ≤ w.heap.size + 2 ∧ _); omega); have zf9 := on9.frozen (p := ⟨w.heap.size + 2, 1, none⟩) (old_cell z1_8 _) (old_free z1_8 zf8 _) (by show ¬ (_ ≤ w.heap.size + 2 ∧ _); omega))
        | (refine step_append_ints _ (by rfl) _ _ (by rfl) (wr.heap.size + 1) (wr.heap.size + 2) 0 0 _ [] (by rfl) hE bi oi v.r.length c' v.r (by rfl) (hin3.below (alloc_below w4.drew _)) (by omega) (show wr.heap.size + 1 ≤ (w4.drew.alloc (.cells #[] 3)).heap.size by omega) ?_; intro A8 c8 w8 o8 on8; rw [Nat.zero_add] at o8; replace o8 : OwnI w8 (wr.heap.size + 1) w8.heap.size (.slice A8 v.r.length c8) v.r := o8; have b8 := (alloc_below w4.drew (.cells #[] 3)).trans (on8.toBelow (B := w4.drew.heap.size) (show w4.drew.heap.size ≤ wr.heap.size + 1 by omega) (show w4.drew.heap.size ≤ (w4.drew.alloc (.cells #[] 3)).heap.size by omega)); have hs8 := b8.size; have hown8 := hown3.belowW b8; have y1_8 := cell_carry b8 y1d; have z1_8 := cell_carry b8 z1d; have z1_8a := old_cell z1_8 (.cells #[.slice A8 v.r.length c8, .int .i64 v.c] 46); have z0_8 := cell_carry b8 z0d; have zf8 := (b8.frozen (p := ⟨w.heap.size + 2, 1, none⟩) (cell_lt z1d)).trans zfd))
      all_goals
        rw [show vs.take k ++ [(⟨v.r, v.c⟩ : Vt)] = vs.take (k + 1) from HT.out.symm] at ho9
        have q1 := Lib.hid (World.cell?_setCell_same w9 ⟨w.heap.size + 2, 1, none⟩ (.slice A9 (k + 1) c9) z1_9)
        have q0 := Lib.hid ((World.cell?_setCell_other w9 ⟨w.heap.size + 2, 1, none⟩ ⟨w.heap.size + 2, 0, none⟩ (.slice A9 (k + 1) c9) (by simp)).trans z0_9)
        have qf : Hid ((w9.setCell ⟨w.heap.size + 2, 1, none⟩ (.slice A9 (k + 1) c9)).frozen? ⟨w.heap.size + 2, 1, none⟩ = false) := by show _ = _; rw [World.frozen?_setCell]; exact zf9
        have q8 : w8.heap.size ≤ (w8.alloc (.cells #[.slice A8 v.r.length c8, .int .i64 v.c] 46)).heap.size := by simp
        have q9 : w8.heap.size + 1 ≤ w9.heap.size := by have := on9.size; simp at this; omega
        have hb9 : Below (w.heap.size + 2) w2 w9 := (h4d.trans ((b8.trans ((alloc_below w8 (.cells #[.slice A8 v.r.length c8, .int .i64 v.c] 46)).mono hs8)).mono (by omega))).trans (on9.toBelow (by omega) (by simp; omega))
        have hb10 := Lib.hid (hb9.setCell (p := ⟨w.heap.size + 2, 1, none⟩) (Nat.le_refl _) (.slice A9 (k + 1) c9))
        have on10 : Only (w.heap.size + 2) (w.heap.size + 3) w9 (w9.setCell ⟨w.heap.size + 2, 1, none⟩ (.slice A9 (k + 1) c9)) := ⟨rfl, rfl, rfl, by simp [World.setCell], fun k _ hk => Below.heap_setCell _ _ _ _ (by simp; omega)⟩
        have ho10 := ho9.only on10 (.inr (Nat.le_refl _))
        have z10 : (w9.setCell ⟨w.heap.size + 2, 1, none⟩ (.slice A9 (k + 1) c9)).heap.size = w9.heap.size := World.size_setCell _ _ _
        rw [← z10] at ho10
        have HO := Lib.hid ho10
        have ZZ := Lib.hid (show w.heap.size + 3 ≤ (w9.setCell ⟨w.heap.size + 2, 1, none⟩ (.slice A9 (k + 1) c9)).heap.size by omega)
        clear on9 ho9 b8 o8 hown8 y1_8 z1_8 z1_8a z0_8 zf8 z0_9 hb9 on10 ho10 z10
        go_wp2
        go_roundw
        case rel => exact ⟨k + 1, A9, c9, by omega, by go_num, q0.out, q1.out, qf.out, HO.out, hb10.out, ZZ.out⟩
        case measure => simp [intOf]; omega
    · obtain rfl : k = vs.length := by omega
      rw [List.take_length] at hown
      have r0' := (hb.cell (p := ⟨w.heap.size + 1, 0, none⟩) (by show w.heap.size + 1 < _; omega)).trans r0
      have r1' := (hb.cell (p := ⟨w.heap.size + 1, 1, none⟩) (by show w.heap.size + 1 < _; omega)).trans r1
      have f0' := (hb.frozen (p := ⟨w.heap.size + 1, 0, none⟩) (by show w.heap.size + 1 < _; omega)).trans rf0'
      have f1' := (hb.frozen (p := ⟨w.heap.size + 1, 1, none⟩) (by show w.heap.size + 1 < _; omega)).trans rf1'
      have E2 := Lib.hid (pair_set r0' r1' (.int .i64 m) (.slice A1 vs.length c1))
      have n1 : Only (w.heap.size + 1) (w.heap.size + 2) wr (wr.setCell ⟨w.heap.size + 1, 0, none⟩ (.int .i64 m)) := ⟨rfl, rfl, rfl, by simp [World.setCell], fun k _ hk => Below.heap_setCell _ _ _ _ (by simp; omega)⟩
      have n2 : Only (w.heap.size + 1) (w.heap.size + 2) (wr.setCell ⟨w.heap.size + 1, 0, none⟩ (.int .i64 m)) ((wr.setCell ⟨w.heap.size + 1, 0, none⟩ (.int .i64 m)).setCell ⟨w.heap.size + 1, 1, none⟩ (.slice A1 vs.length c1)) := ⟨rfl, rfl, rfl, by simp [World.setCell], fun k _ hk => Below.heap_setCell _ _ _ _ (by simp; omega)⟩
      have n3 := n1.trans n2
      have ho := (hown.only n3 (.inr (by omega))).mono (show w.heap.size ≤ w.heap.size + 3 by omega) n3.size
      have HO := Lib.hid ho
      have HBB := Lib.hid (hbw.trans (n3.toBelow (by omega) (by omega)))
      clear n1 n2 n3 ho hown hbw hb r0 r1 rf0' rf1'
      go_wp2
      obtain ⟨e0, e1⟩ := E2.out
      exact bodyPost_ret (v := .agg #[.int .i64 m, .slice A1 vs.length c1]) (by simp [results, Tryz.results30, go_sem, e0, e1]) rfl ⟨A1, c1, rfl, HO.out, HBB.out⟩
end Go.Proofs.YtcjnjnegaoihoaaGreat
namespace Go.Proofs.YtcjnjnegaoihoaaGreat
set_option linter.unusedSimpArgs false
set_option linter.unusedVariables false
set_option linter.unusedVariables false
open Go.RowKit

set_option maxRecDepth 100000 in
set_option maxHeartbeats 2000000 in
theorem specWithRanking (m : Int) (A : Option Addr) (n c : Nat) (vs : List Vt) (k : Nat) (B : Option Addr) (d : Nat) (r : List Int) (w : World) (h : VotesAt w A n vs) (hn : n ≤ 1048576) (hx : ∀ v ∈ vs, v.r.length ≤ 1048576) (hp : profOk m vs = true) (hk : k < n) (g : IntsAt w B r.length r) (hd : r.length ≤ d) (hr : rankOk m r = true) :
    Calls Tryz.prog 39 #[.agg #[.int .i64 m, .slice A n c], .int .i64 (k : Int), .slice B r.length d] w fun e w' => ∃ A' c', e = .returned (.tuple #[.agg #[.int .i64 m, .slice A' n c'], .bool true]) ∧ OwnV w' w.heap.size w'.heap.size (.slice A' n c') (setR vs k r) ∧ Below w.heap.size w w' := by
  have g00 := g
  obtain rfl := h.len
  have hB := alloc_below w (.cells #[.int .i64 m, .slice A vs.length c] 31)
  obtain ⟨x0, x1⟩ := PBox.new w m A vs.length c 31 rfl
  replace h := h.below hB
  generalize hw0 : w.alloc (.cells #[.int .i64 m, .slice A vs.length c] 31) = w0 at *
  have s0 : w0.heap.size = w.heap.size + 1 := by rw [← hw0]; simp
  have g0 := g00.below hB
  have rl : r.length ≤ 5 := by have := (rankOk_facts hr).2; omega
  have rl1 : 1 ≤ r.length := by obtain ⟨a1, a2, a3, _⟩ := rankOk_facts hr; omega
  have b1 := alloc_below w0 (.cells #[.int .i64 0, .slice none 0 0] 31)
  obtain ⟨r0, r1⟩ := PBox.new w0 0 none 0 0 31 rfl
  have rf0 := new_free w0 #[.int .i64 0, .slice none 0 0] 31 rfl 0
  have rf1 := new_free w0 #[.int .i64 0, .slice none 0 0] 31 rfl 1
  replace x0 := cell_carry b1 x0
  replace x1 := cell_carry b1 x1
  replace h := h.below b1
  replace g0 := g0.below b1
  replace hB := hB.trans (b1.mono hB.size)
  have s1 : (w0.alloc (.cells #[.int .i64 0, .slice none 0 0] 31)).heap.size = w.heap.size + 2 := by simp [s0]
  clear b1 g00 g
  generalize hw1 : w0.alloc (.cells #[.int .i64 0, .slice none 0 0] 31) = w1 at *
  have K := Lib.hid (specProfileOk m A vs.length c vs w1 h hn hx)
  rw [hp] at K
  have KR := Lib.hid (fun W hW => specRankingOk m B r.length d r W hW (by omega) hd)
  rw [hr] at KR
  have KC := Lib.hid (fun W hW => specCopy m A vs.length c vs W hW hn (fun v hv => by have h1 := (pf_of hp).l v hv; have h2 := (pf_of hp).m1; have h3 := (pf_of hp).m5; omega))
  have hk1 : inB (k : Int) 0 ((vs.length : Int) - 1) = true := inB_iff.2 ⟨by omega, by omega⟩
  have ew : IntKind.i64.wrap ((vs.length : Int) - 1) = (vs.length : Int) - 1 := IntWalk.i64_in _ (by omega)
  have S0 := Lib.hid s0
  have S1 := Lib.hid s1
  clear hx hp hr s0 s1
  go_enter Tryz.func39, Tryz.ntmps39
  go_wp2_with fail
  (with_reducible refine K.out.mono ?_)
  rintro e w2 ⟨rfl, b2⟩
  have s2 := b2.size
  replace x0 := cell_carry b2 x0
  replace x1 := cell_carry b2 x1
  replace rf0 := (b2.frozen (p := ⟨w0.heap.size, 0, none⟩) (cell_lt r0)).trans rf0
  replace rf1 := (b2.frozen (p := ⟨w0.heap.size, 1, none⟩) (cell_lt r1)).trans rf1
  replace r0 := cell_carry b2 r0
  replace r1 := cell_carry b2 r1
  replace h := h.below b2
  replace g0 := g0.below b2
  replace hB := hB.trans (b2.mono hB.size)
  clear b2 K hw1 hw0
  go_wp2_with fail
  (with_reducible refine (l01In_any _ _ _ _).mono ?_)
  rintro e w3 ⟨rfl, rfl⟩
  rw [hk1]
  go_wp2_with fail
  (with_reducible refine (KR.out _ g0).mono ?_)
  rintro e wb ⟨rfl, bR⟩
  replace s2 := Nat.le_trans s2 bR.size
  replace x0 := cell_carry bR x0
  replace x1 := cell_carry bR x1
  replace rf0 := (bR.frozen (p := ⟨w0.heap.size, 0, none⟩) (cell_lt r0)).trans rf0
  replace rf1 := (bR.frozen (p := ⟨w0.heap.size, 1, none⟩) (cell_lt r1)).trans rf1
  replace r0 := cell_carry bR r0
  replace r1 := cell_carry bR r1
  replace h := h.below bR
  replace g0 := g0.below bR
  replace hB := hB.trans (bR.mono hB.size)
  clear bR
  obtain ⟨w2, rfl⟩ : ∃ w2, w2 = wb := ⟨_, rfl⟩
  go_wp2_with fail
  (with_reducible refine (KC.out _ h).mono ?_)
  rintro e w3 ⟨A3, c3, rfl, o3, b3⟩
  have s3 := b3.size
  replace rf0 := (b3.frozen (p := ⟨w0.heap.size, 0, none⟩) (cell_lt r0)).trans rf0
  replace rf1 := (b3.frozen (p := ⟨w0.heap.size, 1, none⟩) (cell_lt r1)).trans rf1
  replace r0 := cell_carry b3 r0
  replace r1 := cell_carry b3 r1
  replace g0 := g0.below b3
  replace hB := hB.trans (b3.mono hB.size)
  obtain ⟨g3, rfl, g31, g32, g33⟩ := o3.head (show 0 < vs.length by omega)
  clear b3 KR KC h x0 x1
  have b4 := alloc_below w3 (.cells #[.int .i64 m, .slice (some ⟨g3, 0, none⟩) vs.length c3] 31)
  obtain ⟨z0, z1⟩ := PBox.new w3 m (some ⟨g3, 0, none⟩) vs.length c3 31 rfl
  have o4 := o3.alloc (.cells #[.int .i64 m, .slice (some ⟨g3, 0, none⟩) vs.length c3] 31)
  replace rf0 := old_free r0 rf0 (.cells #[.int .i64 m, .slice (some ⟨g3, 0, none⟩) vs.length c3] 31)
  replace rf1 := old_free r1 rf1 (.cells #[.int .i64 m, .slice (some ⟨g3, 0, none⟩) vs.length c3] 31)
  replace r0 := cell_carry b4 r0
  replace r1 := cell_carry b4 r1
  replace g0 := g0.below b4
  replace hB := hB.trans (b4.mono hB.size)
  have s4 : (w3.alloc (.cells #[.int .i64 m, .slice (some ⟨g3, 0, none⟩) vs.length c3] 31)).heap.size = w3.heap.size + 1 := by simp
  clear b4 o3
  generalize hw4 : w3.alloc (.cells #[.int .i64 m, .slice (some ⟨g3, 0, none⟩) vs.length c3] 31) = w4 at *
  go_wp2
  clear hw4
  obtain ⟨⟨u, cu⟩, fu⟩ := o4.cells k hk
  have kk : (k : Int) < (vs.length : Int) := by omega
  have g0d : IntsAt w4.drew B r.length r := g0
  have z1d : w4.drew.cell? ⟨w3.heap.size, 1, none⟩ = some (.slice (some ⟨g3, 0, none⟩) vs.length c3) := z1
  have z0d : w4.drew.cell? ⟨w3.heap.size, 0, none⟩ = some (.int .i64 m) := z0
  have o4d : OwnV w4.drew w2.heap.size w3.heap.size (.slice (some ⟨g3, 0, none⟩) vs.length c3) vs := o4
  have cud : w4.drew.cell? ⟨g3, k * 2, none⟩ = some u := cu
  have fud : w4.drew.frozen? ⟨g3, k * 2, none⟩ = false := fu
  have s4d : w4.drew.heap.size = w3.heap.size + 1 := s4
  obtain ⟨bi, oi, rfl, _, _⟩ := g0.at_ (k := 0) (by omega)
  have hE : OwnI (w4.drew.alloc (.cells #[] 3)) (w3.heap.size + 1) (w3.heap.size + 2) (.slice (some ⟨w3.heap.size + 1, 0, none⟩) 0 0) [] := by
    have h := OwnI.empty w4.drew (lo := w4.drew.heap.size) (hi := w4.drew.heap.size + 1) (Nat.le_refl _) (by omega)
    rw [s4d] at h; exact h
  have zE : (w4.drew.alloc (.cells #[] 3)).heap.size = w3.heap.size + 2 := by rw [World.size_alloc, s4d]
  have z1e := old_cell z1 (.cells #[] 3)
  go_region_law (first
    | (refine step_append_ints _ (by rfl) _ _ (by rfl) (w3.heap.size + 1) (w3.heap.size + 2) 0 0 _ [] (by rfl) hE bi oi r.length d r (by rfl) (g0d.below (alloc_below w4.drew _)) (by omega) (show w3.heap.size + 1 ≤ (w4.drew.alloc (.cells #[] 3)).heap.size by omega) ?_; intro A8 c8 w8 o8 on8; rw [Nat.zero_add] at o8; replace o8 : OwnI w8 (w3.heap.size + 1) w8.heap.size (.slice A8 r.length c8) r := o8; have b8 := (alloc_below w4.drew (.cells #[] 3)).trans (on8.toBelow (B := w4.drew.heap.size) (show w4.drew.heap.size ≤ w3.heap.size + 1 by omega) (show w4.drew.heap.size ≤ (w4.drew.alloc (.cells #[] 3)).heap.size by omega)); have z1_8 := cell_carry b8 z1d; have z0_8 := cell_carry b8 z0d; have cu8 := cell_carry b8 cud; have fu8 := (b8.frozen (p := ⟨g3, k * 2, none⟩) (cell_lt cud)).trans fud))
  all_goals
    have S8 := b8.size
    have o8b := o4d.belowW b8
    have hz8 : w3.heap.size ≤ w8.heap.size := by omega
    obtain ⟨O9, N9⟩ := o8b.stored (H := w8.heap.size) k hk o8 (by omega) (Nat.le_refl _) s3 hz8
    have nz : w3.heap.size ≠ g3 := by omega
    have q1 := N9.cell z1_8 (by show ¬ (_ ≤ w3.heap.size ∧ w3.heap.size < _); omega)
    have q0 := N9.cell z0_8 (by show ¬ (_ ≤ w3.heap.size ∧ w3.heap.size < _); omega)
    have S0' : w.heap.size < w0.heap.size := by have := S0.out; omega
    have S1' : w0.heap.size < w1.heap.size := by have h1 := S0.out; have h2 := S1.out; omega
    have r0' := N9.cell (cell_carry (w := w4.drew) b8 r0) (by show ¬ (_ ≤ w0.heap.size ∧ w0.heap.size < _); omega)
    have r1' := N9.cell (cell_carry (w := w4.drew) b8 r1) (by show ¬ (_ ≤ w0.heap.size ∧ w0.heap.size < _); omega)
    have f0' := N9.frozen (p := ⟨w0.heap.size, 0, none⟩) (cell_carry (w := w4.drew) b8 r0) ((b8.frozen (p := ⟨w0.heap.size, 0, none⟩) (cell_lt r0)).trans rf0) (by show ¬ (_ ≤ w0.heap.size ∧ w0.heap.size < _); omega)
    have f1' := N9.frozen (p := ⟨w0.heap.size, 1, none⟩) (cell_carry (w := w4.drew) b8 r1) ((b8.frozen (p := ⟨w0.heap.size, 1, none⟩) (cell_lt r1)).trans rf1) (by show ¬ (_ ≤ w0.heap.size ∧ w0.heap.size < _); omega)
    have HB9 : Below w.heap.size w (w8.setCell ⟨g3, k * 2, none⟩ (.slice A8 r.length c8)) := (hB.trans (((Below.refl _ w4).drew.trans b8).mono hB.size)).trans (N9.toBelow (by omega) (by omega))
    have z9 : (w8.setCell ⟨g3, k * 2, none⟩ (.slice A8 r.length c8)).heap.size = w8.heap.size := World.size_setCell _ _ _
    clear N9 o8b o4d
    generalize w8.setCell ⟨g3, k * 2, none⟩ (.slice A8 r.length c8) = w9 at *
    have E2 := Lib.hid (pair_set r0' r1' (.int .i64 m) (.slice (some ⟨g3, 0, none⟩) vs.length c3))
    have n1 : Only w0.heap.size (w0.heap.size + 1) w9 (w9.setCell ⟨w0.heap.size, 0, none⟩ (.int .i64 m)) := ⟨rfl, rfl, rfl, by simp [World.setCell], fun k _ hk => Below.heap_setCell _ _ _ _ (by simp; omega)⟩
    have n2 : Only w0.heap.size (w0.heap.size + 1) (w9.setCell ⟨w0.heap.size, 0, none⟩ (.int .i64 m)) ((w9.setCell ⟨w0.heap.size, 0, none⟩ (.int .i64 m)).setCell ⟨w0.heap.size, 1, none⟩ (.slice (some ⟨g3, 0, none⟩) vs.length c3)) := ⟨rfl, rfl, rfl, by simp [World.setCell], fun k _ hk => Below.heap_setCell _ _ _ _ (by simp; omega)⟩
    have n3 := n1.trans n2
    have n3s := n3.size
    have HO : Hid (OwnV ((w9.setCell ⟨w0.heap.size, 0, none⟩ (.int .i64 m)).setCell ⟨w0.heap.size, 1, none⟩ (.slice (some ⟨g3, 0, none⟩) vs.length c3)) w.heap.size ((w9.setCell ⟨w0.heap.size, 0, none⟩ (.int .i64 m)).setCell ⟨w0.heap.size, 1, none⟩ (.slice (some ⟨g3, 0, none⟩) vs.length c3)).heap.size (.slice (some ⟨g3, 0, none⟩) vs.length c3) (setR vs k r)) :=
      (O9.only n3 (.inr (by omega))).mono (by omega) (by omega)
    have HBB := Lib.hid (HB9.trans (n3.toBelow (by omega) (by omega)))
    clear n1 n2 n3 n3s S0' S1' O9 HB9 b8 o8 r0 r1 rf0 rf1 hB z1 z0 cu fu z1d z0d cud fud z1_8 z0_8 cu8 fu8
    go_wp2
    obtain ⟨e0, e1⟩ := E2.out
    exact bodyPost_ret (v := .tuple #[.agg #[.int .i64 m, .slice (some ⟨g3, 0, none⟩) vs.length c3], .bool true]) (by simp [results, Tryz.results39, go_sem, e0, e1]) rfl ⟨_, _, rfl, HO.out, HBB.out⟩
end Go.Proofs.YtcjnjnegaoihoaaGreat
namespace Go.Proofs.YtcjnjnegaoihoaaGreat
set_option linter.unusedSimpArgs false
set_option linter.unusedVariables false
set_option linter.unusedVariables false
open Go.RowKit

set_option maxRecDepth 100000 in
set_option maxHeartbeats 2000000 in
theorem specReply (rule m : Int) (A : Option Addr) (n c : Nat) (vs : List Vt) (k : Nat) (B : Option Addr) (d : Nat) (truth : List Int) (w : World) (h : VotesAt w A n vs) (hn : n ≤ 1048576) (hx : ∀ v ∈ vs, v.r.length ≤ 1048576) (hp : profOk m vs = true) (hk : k < n) (r1 : 1 ≤ rule) (r13 : rule ≤ 13) (g : IntsAt w B truth.length truth) (hd : truth.length ≤ d) (ht : rankOk m truth = true) :
    Calls Tryz.prog 20 #[.int .i64 rule, .agg #[.int .i64 m, .slice A n c], .int .i64 (k : Int), .slice B truth.length d] w fun e w' => ∃ A' c', e = .returned (.tuple #[.slice A' (replyR rule m vs k truth).length c', .int .i64 (replyW rule m vs k truth)]) ∧ IntsAt w' A' (replyR rule m vs k truth).length (replyR rule m vs k truth) ∧ (replyR rule m vs k truth).length ≤ c' ∧ Below w.heap.size w w' := by
  have g0 := g.below (alloc_below w (.cells #[.int .i64 m, .slice A n c] 31))
  obtain rfl := h.len
  have hB := alloc_below w (.cells #[.int .i64 m, .slice A vs.length c] 31)
  obtain ⟨x0, x1⟩ := PBox.new w m A vs.length c 31 rfl
  replace h := h.below hB
  generalize hw0 : w.alloc (.cells #[.int .i64 m, .slice A vs.length c] 31) = w0 at *
  have F := pf_of hp
  have RB := reply_bix (rule := rule) hp hk r1 r13 ht
  have RO := Lib.hid (fun r (hr : r ∈ allRankings m) => rank_all' F.m1 F.m5 hr)
  have KA := Lib.hid (fun W => specAllRankings m W)
  have KW := Lib.hid (fun B d r W hW g hd hr => specWithRanking m A vs.length c vs k B d r W hW hn hx hp hk g hd hr)
  have WB := Lib.hid (fun r (hr : rankOk m r = true) => (winner_bd (rule := rule) (setR_ok hp hk hr) r1 r13).1)
  have RS := rank_some F.m1 F.m5
  have R3 := allRankings_len (m := m)
  have tl : truth.length ≤ 5 := by have := (rankOk_facts ht).2; omega
  clear g F
  generalize allRankings m = rs at *
  have b3 := alloc_below w0 (.cells #[] 3)
  have h1 := h.below b3
  have g1 := g0.below b3
  have y0 := cell_carry b3 x0
  have y1 := cell_carry b3 x1
  have z0 := hB.size
  replace hB := hB.trans (b3.mono hB.size)
  generalize hw1 : w0.alloc (.cells #[] 3) = w1 at *
  clear h b3
  go_enter Tryz.func20, Tryz.ntmps20
  go_wp2_with fail
  (with_reducible refine (KA.out _).mono ?_)
  rintro e w2 ⟨A2, c2, rfl, o2, b2⟩
  have hr2 := o2.at_
  replace hB := hB.trans (b2.mono hB.size)
  replace y0 := cell_carry b2 y0
  replace y1 := cell_carry b2 y1
  have h2 := h1.below b2
  have g2 := g1.below b2
  clear b2 o2 KA x0 x1 hw0 hw1 h1 g1 g0
  go_wp2
  go_loopw [10, 11, 22] (fun b l i wr => ∃ q : Nat, q ≤ rs.length ∧ i = .int .i64 q ∧ (∃ u : Int, l = .int .i64 u ∧ ((q = 0 ∧ u = -1) ∨ (0 < q ∧ u = winWith rule m vs k (rx rs (bix truth (fun j => winWith rule m vs k (rx rs j)) q))))) ∧ (∃ ba n' c', b = .slice ba n' c' ∧ (q = 0 ∨ (n' = (rx rs (bix truth (fun j => winWith rule m vs k (rx rs j)) q)).length ∧ n' ≤ c' ∧ IntsAt wr ba n' (rx rs (bix truth (fun j => winWith rule m vs k (rx rs j)) q))))) ∧ Below w2.heap.size w2 wr) (fun _ _ i _ => rs.length - (intOf i).toNat)
  case atStart => exact ⟨0, Nat.zero_le _, rfl, ⟨-1, rfl, .inl ⟨rfl, rfl⟩⟩, ⟨_, _, _, rfl, .inl rfl⟩, Below.refl _ _⟩
  case round =>
    obtain ⟨q, hq, rfl, ⟨u, rfl, hu⟩, ⟨ba, n', cb, rfl, hbst⟩, hb⟩ := hrel
    by_cases hlt : q < rs.length
    · obtain ⟨b, o, A', c', rfl, _, hc1, hcc, hin⟩ := (hr2.below hb).at_ hlt
      have ro := RO.out _ (rx_mem hlt)
      have y0' := cell_carry hb y0
      have y1' := cell_carry hb y1
      have KM := Lib.hid (KW.out A' c' (rx rs q) wr (h2.below hb) hin hcc ro)
      have i1 : (q : Int) < (rs.length : Int) := by omega
      go_wp2_with fail
      (with_reducible refine KM.out.mono ?_)
      rintro e w3 ⟨A3, c3, rfl, o3, b3⟩
      have hb3 := hb.trans (b3.mono hb.size)
      have b4 := alloc_below w3 (.cells #[.int .i64 m, .slice A3 vs.length c3] 31)
      obtain ⟨u0, u1⟩ := PBox.new w3 m A3 vs.length c3 31 rfl
      have o4 := o3.at_.below b4
      have hb4 := hb3.trans (b4.mono hb3.size)
      have hin4 := (hin.below b3).below b4
      have KX := Lib.hid (specWinnerBy rule m A3 vs.length c3 (setR vs k (rx rs q)) _ o4 hn (setR_small hx ro))
      have hbA := b3.trans (b4.mono b3.size)
      clear b4 b3 o3 KM y0' y1' hb hb3
      generalize hw4 : w3.alloc (.cells #[.int .i64 m, .slice A3 vs.length c3] 31) = w4 at *
      go_wp2_with fail
      (with_reducible refine KX.out.mono ?_)
      rintro e w5 ⟨rfl, b5⟩
      have hb5 := hb4.trans (b5.mono hb4.size)
      have hin5 := hin4.below b5
      have hbC := hbA.trans (b5.mono hbA.size)
      have g5 := g2.below hb5
      have HS : Hid (bix truth (fun j => winWith rule m vs k (rx rs j)) (q + 1) = if q = 0 then 0 else if pref truth (winWith rule m vs k (rx rs q)) (winWith rule m vs k (rx rs (bix truth (fun j => winWith rule m vs k (rx rs j)) q))) then q else bix truth (fun j => winWith rule m vs k (rx rs j)) q) := rfl
      have hwn := WB.out _ ro
      have HW : Hid (winWith rule m vs k (rx rs q) = winnerR rule m (setR vs k (rx rs q))) := rfl
      generalize winnerR rule m (setR vs k (rx rs q)) = y at *
      clear b5 KX hb4 hin4 u0 u1 o4 hin hc1 hbA
      by_cases h0 : q = 0
      · have HE : Hid (bix truth (fun j => winWith rule m vs k (rx rs j)) (q + 1) = q) := by have := HS.out; rw [if_pos h0] at this; rw [← h0] at this; show _ = _; rw [h0] at this ⊢; exact this
        have hu0 : u = -1 := hu.elim (fun e => e.2) (fun e => absurd e.1 (by omega))
        subst hu0
        clear hu hbst h0 HS hbC g5
        go_wp2
        go_roundw
        case rel => exact ⟨q + 1, by omega, by go_num, ⟨y, rfl, .inr ⟨by omega, by rw [HE.out, HW.out]⟩⟩, ⟨_, _, _, rfl, .inr ⟨by rw [HE.out], hcc, by rw [HE.out]; exact hin5⟩⟩, hb5⟩
        case measure => simp [intOf]; omega
      · rw [if_neg h0] at HS
        obtain ⟨rfl, hcc', hinb⟩ := hbst.resolve_left h0
        have hu' := hu.elim (fun e => absurd e.1 h0) (fun e => e.2)
        have hbl := (bix_facts truth (fun j => winWith rule m vs k (rx rs j)) q (by omega)).1
        have HUP : 0 ≤ u := by rw [hu']; exact WB.out _ (RO.out _ (rx_mem (by omega)))
        rw [← hu', HW.out] at HS
        have HU := Lib.hid hu'
        have hinb5 := hinb.below hbC
        have KP := Lib.hid (specPrefers B truth.length d truth y u w5 g5 (by omega))
        clear hu hbst hu' hinb hbC g5 hbl
        generalize bix truth (fun j => winWith rule m vs k (rx rs j)) q = bq at *
        generalize hpq : pref truth y u = pq at *
        clear hpq
        go_wp2_with fail
        (with_reducible refine KP.out.mono ?_)
        rintro e w6 ⟨rfl, rfl⟩
        cases pq
        · have HE : Hid (bix truth (fun j => winWith rule m vs k (rx rs j)) (q + 1) = bq) := by show _ = _; rw [HS.out, if_neg (by simp)]
          clear HS KP
          go_wp2
          go_roundw
          case rel => exact ⟨q + 1, by omega, by go_num, ⟨u, rfl, .inr ⟨by omega, by rw [HE.out, HU.out]⟩⟩, ⟨_, _, _, rfl, .inr ⟨by rw [HE.out], hcc', by rw [HE.out]; exact hinb5⟩⟩, hb5⟩
          case measure => simp [intOf]; omega
        · have HE : Hid (bix truth (fun j => winWith rule m vs k (rx rs j)) (q + 1) = q) := by show _ = _; rw [HS.out, if_pos rfl]
          clear HS KP
          go_wp2
          go_roundw
          case rel => exact ⟨q + 1, by omega, by go_num, ⟨y, rfl, .inr ⟨by omega, by rw [HE.out, HW.out]⟩⟩, ⟨_, _, _, rfl, .inr ⟨by rw [HE.out], hcc, by rw [HE.out]; exact hin5⟩⟩, hb5⟩
          case measure => simp [intOf]; omega
    · obtain rfl : q = rs.length := by omega
      obtain ⟨hu1, rfl⟩ := hu.resolve_left (fun e => by omega)
      obtain ⟨rfl, hcc', hinb⟩ := hbst.resolve_left (by omega)
      obtain ⟨e1, e2⟩ := RB
      rw [e1] 
      rw [e2] at hcc' hinb ⊢
      have HB9 := Lib.hid (hB.trans (hb.mono hB.size))
      clear hu hbst hb hB e1 e2
      go_wp2
      go_ret2
      exact ⟨_, _, rfl, hinb, hcc', HB9.out⟩
end Go.Proofs.YtcjnjnegaoihoaaGreat
namespace Go.Proofs.YtcjnjnegaoihoaaGreat
set_option linter.unusedSimpArgs false
set_option linter.unusedVariables false
set_option linter.unusedVariables false
open Go.RowKit

theorem specRule (rule m : Int) (A : Option Addr) (n c : Nat) (vs : List Vt) (w : World) (h : VotesAt w A n vs) (hn : n ≤ 1048576) (hx : ∀ v ∈ vs, v.r.length ≤ 1048576) :
    Calls Tryz.prog 18 #[.int .i64 rule, .agg #[.int .i64 m, .slice A n c]] w fun e w' => e = .returned (.bool (profOk m vs && decide (m ≤ 4) && inB rule 1 13)) ∧ Below w.heap.size w w' := by
  obtain rfl := h.len
  have hB := alloc_below w (.cells #[.int .i64 m, .slice A vs.length c] 31)
  obtain ⟨x0, x1⟩ := PBox.new w m A vs.length c 31 rfl
  replace h := h.below hB
  generalize hw0 : w.alloc (.cells #[.int .i64 m, .slice A vs.length c] 31) = w0 at *
  have K := Lib.hid (specProfileOk m A vs.length c vs _ h hn hx)
  clear hx
  cases hp : profOk m vs
  · rw [hp] at K
    rw [Bool.false_and, Bool.false_and]
    go_enter Tryz.func18, Tryz.ntmps18
    go_wp2_with fail
    (with_reducible refine (K.out).mono ?_)
    rintro e w1 ⟨rfl, b1⟩
    replace hB := hB.trans (b1.mono hB.size)
    clear b1
    go_wp2
    go_ret
    exact ⟨rfl, hB⟩
  rw [hp] at K
  rw [Bool.true_and]
  by_cases hm : m ≤ 4
  · rw [decide_eq_true hm, Bool.true_and]
    cases hq : inB rule 1 13
    all_goals
      go_enter Tryz.func18, Tryz.ntmps18
      go_wp2_with fail
      (with_reducible refine K.out.mono ?_)
      rintro e w1 ⟨rfl, b1⟩
      replace x0 := cell_carry b1 x0
      replace hB := hB.trans (b1.mono hB.size)
      go_wp2_with fail
      (with_reducible refine (l01In_any _ _ _ _).mono ?_)
      rintro e w5 ⟨rfl, rfl⟩
      rw [hq]
      clear hq
      go_wp2
      go_ret
      exact ⟨rfl, hB⟩
  · rw [decide_eq_false hm, Bool.false_and]
    go_enter Tryz.func18, Tryz.ntmps18
    go_wp2_with fail
    (with_reducible refine (K.out).mono ?_)
    rintro e w1 ⟨rfl, b1⟩
    replace x0 := cell_carry b1 x0
    replace x1 := cell_carry b1 x1
    replace hB := hB.trans (b1.mono hB.size)
    clear b1
    go_wp2
    go_ret
    exact ⟨rfl, hB⟩
end Go.Proofs.YtcjnjnegaoihoaaGreat
