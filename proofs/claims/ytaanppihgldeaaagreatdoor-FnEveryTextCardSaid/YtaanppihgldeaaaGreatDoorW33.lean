/- A profile the other way round: ReverseProfile, ReversalFailure; the program's side. Nobody alone wins both ways round by Borda: ReverseProfile, ReversalFailure; the program's side. -/
import Derived.Test.YtaanppihgldeaaaGreatDoorW32
namespace Go.Proofs.YtaanppihgldeaaaGreatDoor
set_option linter.unusedSimpArgs false
set_option linter.unusedVariables false
set_option linter.unusedVariables false
open Go.RowKit

theorem implReverseRanking (A : Option Addr) (n c : Nat) (xs : List Int) (w : World) (h : IntsAt w A n xs) (hn : n ≤ 1048576) (h0 : 0 < n) :
    Calls Tryz.prog 81 #[.slice A n c] w fun e w' => ∃ A' c', e = .returned (.slice A' xs.reverse.length c') ∧ OwnI w' w.heap.size w'.heap.size (.slice A' xs.reverse.length c') xs.reverse ∧ Below w.heap.size w w' := by
  obtain rfl := h.len
  have K := Lib.hid (clone_any A xs.length c xs w h hn)
  rw [List.length_reverse]
  go_enter Tryz.func81, Tryz.ntmps81
  go_wp2_with fail
  (with_reducible refine K.out.mono ?_)
  rintro e w1 ⟨A1, c1, rfl, o1, b1⟩
  obtain ⟨g1, rfl, g11, g12⟩ := o1.head h0
  have KR := Lib.hid (reverse_any g1 c1 _ _ xs w1 o1 hn)
  clear K o1 h
  go_wp2_with fail
  (with_reducible refine KR.out.mono ?_)
  rintro e w2 ⟨⟨v, rfl⟩, o2, on2⟩
  have HO := Lib.hid (o2.mono (Nat.le_refl _) on2.size)
  have HB := Lib.hid (b1.trans (on2.toBelow g11 b1.size))
  clear o2 on2 b1 KR
  go_wp2
  go_ret
  exact ⟨_, _, rfl, HO.out, HB.out⟩
theorem revProf1 (A : Option Addr) (n c : Nat) (xs : List Int) (w : World) (h : IntsAt w A n xs) (hn : n ≤ 1048576) (h0 : 0 < n) :
    Calls Tryz.prog 80 #[.slice A n c] w fun e w' => ∃ A' c', e = .returned (.slice A' xs.reverse.length c') ∧ OwnI w' w.heap.size w'.heap.size (.slice A' xs.reverse.length c') xs.reverse ∧ Below w.heap.size w w' := by
  have K := Lib.hid (implReverseRanking A n c xs w h hn h0)
  generalize xs.reverse = ys at *
  go_enter Tryz.func80, Tryz.ntmps80
  go_wp2_with fail
  (with_reducible refine K.out.mono ?_)
  rintro e w1 ⟨A1, c1, rfl, o1, b1⟩
  go_wp2
  go_ret
  exact ⟨_, _, rfl, o1, b1⟩
theorem revV_take {vs : List Vt} {k : Nat} (h : k < vs.length) : revV (vs.take (k + 1)) = revV (vs.take k) ++ [⟨(vx vs k).r.reverse, (vx vs k).c⟩] := by
  unfold revV
  rw [take_vx h, List.map_append]; rfl
set_option maxRecDepth 100000 in
set_option maxHeartbeats 2000000 in
theorem implChangedRev (m : Int) (A : Option Addr) (n c : Nat) (vs : List Vt) (w : World) (h : VotesAt w A n vs) (hp : profOk m vs = true) :
    Calls Tryz.prog 79 #[.agg #[.int .i64 m, .slice A n c], .int .i64 m, .func (.func 80) #[] #[]] w fun e w' => ∃ A' c', e = .returned (.tuple #[.agg #[.int .i64 m, .slice A' n c'], .bool true]) ∧ OwnV w' w.heap.size w'.heap.size (.slice A' n c') (revV vs) ∧ Below w.heap.size w w' := by
  have hv0 := h
  obtain rfl := h.len
  have hB := alloc_below w (.cells #[.int .i64 m, .slice A vs.length c] 24)
  obtain ⟨x0, x1⟩ := PBox.new w m A vs.length c 24 rfl
  replace h := h.below hB
  generalize hw0 : w.alloc (.cells #[.int .i64 m, .slice A vs.length c] 24) = w0 at *
  have F := pf_of hp
  obtain ⟨hn, hx⟩ := small_of F
  have m1 := F.m1
  have s0 : w0.heap.size = w.heap.size + 1 := by rw [← hw0]; simp
  have b1 := alloc_below w0 (.cells #[.int .i64 0, .slice none 0 0] 24)
  obtain ⟨r0, r1⟩ := PBox.new w0 0 none 0 0 24 s0.symm
  have rf0 := new_free w0 #[.int .i64 0, .slice none 0 0] 24 s0.symm 0
  have rf1 := new_free w0 #[.int .i64 0, .slice none 0 0] 24 s0.symm 1
  replace x0 := cell_carry b1 x0
  replace x1 := cell_carry b1 x1
  replace h := h.below b1
  replace hB := hB.trans (b1.mono hB.size)
  have s1 : (w0.alloc (.cells #[.int .i64 0, .slice none 0 0] 24)).heap.size = w.heap.size + 2 := by simp [s0]
  clear b1
  generalize hw1 : w0.alloc (.cells #[.int .i64 0, .slice none 0 0] 24) = w1 at *
  have K := Lib.hid (implProfileOk m A vs.length c vs w1 h hn hx)
  rw [hp] at K
  have VL := Lib.hid (fun (v : Vt) (hv : v ∈ vs) => (by have := F.l v hv; have := F.m5; omega : 0 < v.r.length ∧ v.r.length ≤ 5))
  have HT := Lib.hid (fun k (hk : k < vs.length) => revV_take hk)
  have HE := Lib.hid (show revV (vs.take vs.length) = revV vs by rw [List.take_length])
  have H0 := Lib.hid (show revV (vs.take 0) = [] from rfl)
  have hrl : ∀ k, k ≤ vs.length → (revV (vs.take k)).length = k := fun k hk => by unfold revV; simp; omega
  have HRL := Lib.hid hrl
  generalize revV vs = RV at *
  obtain ⟨T, hT⟩ : ∃ T : Nat → List Vt, ∀ k, T k = revV (vs.take k) := ⟨_, fun _ => rfl⟩
  simp only [← hT] at HT HE H0 HRL
  clear hT hx hp F hrl
  go_enter Tryz.func79, Tryz.ntmps79
  go_wp2_with fail
  (with_reducible refine K.out.mono ?_)
  rintro e w2 ⟨rfl, b2⟩
  have s2 := b2.size
  replace rf0 := (b2.frozen (p := ⟨w.heap.size + 1, 0, none⟩) (cell_lt r0)).trans rf0
  replace rf1 := (b2.frozen (p := ⟨w.heap.size + 1, 1, none⟩) (cell_lt r1)).trans rf1
  replace r0 := cell_carry b2 r0
  replace r1 := cell_carry b2 r1
  replace x0 := cell_carry b2 x0
  replace x1 := cell_carry b2 x1
  replace h := h.below b2
  replace hB := hB.trans (b2.mono hB.size)
  clear b2 K hw1 hw0
  have b3 := alloc_below w2 (.cells #[.int .i64 m, .slice none 0 0] 24)
  obtain ⟨z0, z1⟩ := PBox.new w2 m none 0 0 24 rfl
  have zf1 := new_free w2 #[.int .i64 m, .slice none 0 0] 24 rfl 1
  have rf0' := old_free r0 rf0 (.cells #[.int .i64 m, .slice none 0 0] 24)
  have rf1' := old_free r1 rf1 (.cells #[.int .i64 m, .slice none 0 0] 24)
  have r0' := cell_carry b3 r0
  have r1' := cell_carry b3 r1
  have x0' := cell_carry b3 x0
  have x1' := cell_carry b3 x1
  have hv3 := h.below b3
  have hB3 := hB.trans (b3.mono hB.size)
  have s3 : (w2.alloc (.cells #[.int .i64 m, .slice none 0 0] 24)).heap.size = w2.heap.size + 1 := by simp
  go_wp2
  clear x0 x1 r0 r1 rf0 rf1 h hB b3
  generalize hw3 : w2.alloc (.cells #[.int .i64 m, .slice none 0 0] 24) = w3 at *
  clear hw3
  go_loopw [10, 20] (fun _ i wr => ∃ (k : Nat) (A1 : Option Addr) (c1 : Nat), k ≤ vs.length ∧ i = .int .i64 k ∧ wr.cell? ⟨w2.heap.size, 0, none⟩ = some (.int .i64 m) ∧ wr.cell? ⟨w2.heap.size, 1, none⟩ = some (.slice A1 k c1) ∧ wr.frozen? ⟨w2.heap.size, 1, none⟩ = false ∧
    OwnV wr (w2.heap.size + 1) wr.heap.size (.slice A1 k c1) (T k) ∧ Below w2.heap.size w3 wr ∧ w2.heap.size + 1 ≤ wr.heap.size) (fun _ i _ => vs.length - (intOf i).toNat)
  case atStart => exact ⟨0, none, 0, Nat.zero_le _, rfl, z0, z1, zf1, by rw [H0.out]; exact OwnV.nil _ _ _, Below.refl _ _, by omega⟩
  case round =>
    clear z0 z1 zf1
    obtain ⟨k, A1, c1, hk, rfl, z0, z1, zf1, hown, hb, zr⟩ := hrel
    have hbw := hB3.trans (hb.mono (by omega))
    by_cases hlt : k < vs.length
    · obtain ⟨b, o, A', c', rfl, hbl, hc1, hc2, hcc, hin⟩ := (hv0.below hbw).at_ hlt
      have HTk := Lib.hid (HT.out k hlt)
      obtain ⟨vl0, vl5⟩ := VL.out _ (vx_mem hlt)
      generalize vx vs k = v at *
      have b1 := alloc_below wr (.cells #[.slice A' v.r.length c', .int .i64 v.c] 44)
      obtain ⟨y0, y1⟩ := new_pair wr (.slice A' v.r.length c') (.int .i64 v.c) 44 rfl
      have hin2 := hin.below b1
      have hown2 := hown.belowW b1
      have zf2 := old_free z1 zf1 (.cells #[.slice A' v.r.length c', .int .i64 v.c] 44)
      replace z0 := cell_carry b1 z0
      replace z1 := cell_carry b1 z1
      have hb2 := hb.trans (b1.mono (by omega))
      have zr2 : (wr.alloc (.cells #[.slice A' v.r.length c', .int .i64 v.c] 44)).heap.size = wr.heap.size + 1 := by simp
      have gy : wr.heap.size ≠ w2.heap.size := by omega
      clear b1 hin hown zf1 hb hbw
      generalize hw4 : wr.alloc (.cells #[.slice A' v.r.length c', .int .i64 v.c] 44) = w4 at *
      go_wp2
      clear hw4
      have hin3 : IntsAt w4.drew A' v.r.length v.r := hin2
      have hown3 : OwnV w4.drew (w2.heap.size + 1) wr.heap.size (.slice A1 k c1) (T k) := hown2
      have y1d : w4.drew.cell? ⟨wr.heap.size, 1, none⟩ = some (.int .i64 v.c) := y1
      have z0d : w4.drew.cell? ⟨w2.heap.size, 0, none⟩ = some (.int .i64 m) := z0
      have z1d : w4.drew.cell? ⟨w2.heap.size, 1, none⟩ = some (.slice A1 k c1) := z1
      have zfd : w4.drew.frozen? ⟨w2.heap.size, 1, none⟩ = false := zf2
      have h4d : Below w2.heap.size w3 w4.drew := hb2.drew
      have zrd : w4.drew.heap.size = wr.heap.size + 1 := zr2
      have KF := Lib.hid (revProf1 A' v.r.length c' v.r w4.drew hin3 (by omega) vl0)
      have hRR := Lib.hid (show v.r.reverse.length = v.r.length from List.length_reverse)
      rw [hRR.out] at KF
      have HTT : Hid (T (k + 1) = T k ++ [⟨v.r.reverse, v.c⟩]) := HTk.out
      have hRL : v.r.reverse.length = v.r.length := hRR.out
      generalize v.r.reverse = rr at *
      clear hin2 hown2 HTk hRR
      go_region_law (first
        | (refine step_append_V _ (by rfl) _ _ (by rfl) (w2.heap.size + 1) wr.heap.size k c1 A1 (T k) (by rfl) (hown8.alloc _) A8 v.r.length c8 rr v.c w4.drew.heap.size w8.heap.size (o8.alloc _) (by omega) (by simp) w8.heap.size 1 (by rfl) (new_pair w8 _ _ _ rfl).1 (new_pair w8 _ _ _ rfl).2 (by omega) (by omega) (by simp; omega) ?_; intro A9 c9 w9 ho9 on9; have z1_9 := on9.cell (old_cell z1_8 _) (by show ¬ (_ ≤ w2.heap.size ∧ _); omega); have z0_9 := on9.cell (old_cell z0_8 _) (by show ¬ (_ ≤ w2.heap.size ∧ _); omega); have zf9 := on9.frozen (p := ⟨w2.heap.size, 1, none⟩) (old_cell z1_8 _) (old_free z1_8 zf8 _) (by show ¬ (_ ≤ w2.heap.size ∧ _); omega))
        | (go_simp; go_at_call 80; (with_reducible refine KF.out.mono ?_); rintro er w8 ⟨A8, c8, rfl, o8, b8⟩; have hs8 := b8.size; have hown8 := hown3.belowW b8; have y1_8 := cell_carry b8 y1d; have z1_8 := cell_carry b8 z1d; have z1_8a := old_cell z1_8 (.cells #[.slice A8 v.r.length c8, .int .i64 v.c] 44); have z0_8 := cell_carry b8 z0d; have zf8 := (b8.frozen (p := ⟨w2.heap.size, 1, none⟩) (cell_lt z1d)).trans zfd))
      all_goals
        rw [show T k ++ [(⟨rr, v.c⟩ : Vt)] = T (k + 1) from HTT.out.symm] at ho9
        have q1 := Lib.hid (World.cell?_setCell_same w9 ⟨w2.heap.size, 1, none⟩ (.slice A9 (k + 1) c9) z1_9)
        have q0 := Lib.hid ((World.cell?_setCell_other w9 ⟨w2.heap.size, 1, none⟩ ⟨w2.heap.size, 0, none⟩ (.slice A9 (k + 1) c9) (by simp)).trans z0_9)
        have qf : Hid ((w9.setCell ⟨w2.heap.size, 1, none⟩ (.slice A9 (k + 1) c9)).frozen? ⟨w2.heap.size, 1, none⟩ = false) := by show _ = _; rw [World.frozen?_setCell]; exact zf9
        have q8 : w8.heap.size ≤ (w8.alloc (.cells #[.slice A8 v.r.length c8, .int .i64 v.c] 44)).heap.size := by simp
        have q9 : w8.heap.size + 1 ≤ w9.heap.size := by have := on9.size; simp at this; omega
        have hb9 : Below w2.heap.size w3 w9 := (h4d.trans ((b8.trans ((alloc_below w8 (.cells #[.slice A8 v.r.length c8, .int .i64 v.c] 44)).mono hs8)).mono (by omega))).trans (on9.toBelow (by omega) (by simp; omega))
        have hb10 := Lib.hid (hb9.setCell (p := ⟨w2.heap.size, 1, none⟩) (Nat.le_refl _) (.slice A9 (k + 1) c9))
        have on10 : Only w2.heap.size (w2.heap.size + 1) w9 (w9.setCell ⟨w2.heap.size, 1, none⟩ (.slice A9 (k + 1) c9)) := Only.setCell1 _ _ _ _
        have ho10 := ho9.only on10 (.inr (Nat.le_refl _))
        have z10 : (w9.setCell ⟨w2.heap.size, 1, none⟩ (.slice A9 (k + 1) c9)).heap.size = w9.heap.size := World.size_setCell _ _ _
        rw [← z10] at ho10
        have HO := Lib.hid ho10
        have ZZ := Lib.hid (show w2.heap.size + 1 ≤ (w9.setCell ⟨w2.heap.size, 1, none⟩ (.slice A9 (k + 1) c9)).heap.size by omega)
        clear on9 ho9 b8 o8 hown8 y1_8 z1_8 z1_8a z0_8 zf8 z0_9 hb9 on10 ho10 z10
        go_wp2
        go_roundw
        case rel => exact ⟨k + 1, A9, c9, by omega, by go_num, q0.out, q1.out, qf.out, HO.out, hb10.out, ZZ.out⟩
        case measure => simp [intOf]; omega
    · obtain rfl : k = vs.length := by omega
      rw [HE.out] at hown
      have r0'' := (hb.cell (p := ⟨w.heap.size + 1, 0, none⟩) (by show w.heap.size + 1 < _; omega)).trans r0'
      have r1'' := (hb.cell (p := ⟨w.heap.size + 1, 1, none⟩) (by show w.heap.size + 1 < _; omega)).trans r1'
      have f0' := (hb.frozen (p := ⟨w.heap.size + 1, 0, none⟩) (by show w.heap.size + 1 < _; omega)).trans rf0'
      have f1' := (hb.frozen (p := ⟨w.heap.size + 1, 1, none⟩) (by show w.heap.size + 1 < _; omega)).trans rf1'
      have E2 := Lib.hid (pair_set r0'' r1'' (.int .i64 m) (.slice A1 vs.length c1))
      have n1 : Only (w.heap.size + 1) (w.heap.size + 2) wr (wr.setCell ⟨w.heap.size + 1, 0, none⟩ (.int .i64 m)) := ⟨rfl, rfl, rfl, by simp [World.setCell], fun k _ hk => Below.heap_setCell _ _ _ _ (by simp; omega)⟩
      have n2 : Only (w.heap.size + 1) (w.heap.size + 2) (wr.setCell ⟨w.heap.size + 1, 0, none⟩ (.int .i64 m)) ((wr.setCell ⟨w.heap.size + 1, 0, none⟩ (.int .i64 m)).setCell ⟨w.heap.size + 1, 1, none⟩ (.slice A1 vs.length c1)) := ⟨rfl, rfl, rfl, by simp [World.setCell], fun k _ hk => Below.heap_setCell _ _ _ _ (by simp; omega)⟩
      have n3 := n1.trans n2
      have ho := (hown.only n3 (.inr (by omega))).mono (show w.heap.size ≤ w2.heap.size + 1 by omega) n3.size
      have HO := Lib.hid ho
      have HBB := Lib.hid (hbw.trans (n3.toBelow (by omega) (by omega)))
      clear n1 n2 n3 ho hown hbw hb r0' r1' rf0' rf1'
      go_wp2
      obtain ⟨e0, e1⟩ := E2.out
      exact bodyPost_ret (v := .tuple #[.agg #[.int .i64 m, .slice A1 vs.length c1], .bool true]) (by simp [results, Tryz.results79, go_sem, e0, e1]) rfl ⟨_, _, rfl, HO.out, HBB.out⟩
end Go.Proofs.YtaanppihgldeaaaGreatDoor
namespace Go.Proofs.YtaanppihgldeaaaGreatDoor
set_option linter.unusedSimpArgs false
set_option linter.unusedVariables false
set_option linter.unusedVariables false
open Go.RowKit

set_option maxHeartbeats 1000000 in
theorem implReverseProfile (m : Int) (A : Option Addr) (n c : Nat) (vs : List Vt) (w : World) (h : VotesAt w A n vs) (hp : profOk m vs = true) :
    Calls Tryz.prog 35 #[.agg #[.int .i64 m, .slice A n c]] w fun e w' => ∃ A' c', e = .returned (.tuple #[.agg #[.int .i64 m, .slice A' n c'], .bool true]) ∧ OwnV w' w.heap.size w'.heap.size (.slice A' n c') (revV vs) ∧ Below w.heap.size w w' := by
  obtain rfl := h.len
  have hB := alloc_below w (.cells #[.int .i64 m, .slice A vs.length c] 24)
  obtain ⟨x0, x1⟩ := PBox.new w m A vs.length c 24 rfl
  replace h := h.below hB
  generalize hw0 : w.alloc (.cells #[.int .i64 m, .slice A vs.length c] 24) = w0 at *
  have s0 : w0.heap.size = w.heap.size + 1 := by rw [← hw0]; simp
  have b1 := alloc_below w0 (.cells #[.int .i64 0, .slice none 0 0] 24)
  obtain ⟨r0, r1⟩ := PBox.new w0 0 none 0 0 24 s0.symm
  have rf0 := new_free w0 #[.int .i64 0, .slice none 0 0] 24 s0.symm 0
  have rf1 := new_free w0 #[.int .i64 0, .slice none 0 0] 24 s0.symm 1
  replace x0 := cell_carry b1 x0
  replace x1 := cell_carry b1 x1
  replace h := h.below b1
  replace hB := hB.trans (b1.mono hB.size)
  have s1 : (w0.alloc (.cells #[.int .i64 0, .slice none 0 0] 24)).heap.size = w.heap.size + 2 := by simp [s0]
  clear b1
  generalize hw1 : w0.alloc (.cells #[.int .i64 0, .slice none 0 0] 24) = w1 at *
  have K := Lib.hid (implChangedRev m A vs.length c vs w1 h hp)
  generalize revV vs = R at *
  clear hp
  go_enter Tryz.func35, Tryz.ntmps35
  go_wp2_with fail
  (with_reducible refine K.out.mono ?_)
  rintro e w2 ⟨A2, c2, rfl, o2, b2⟩
  have s2 := b2.size
  replace rf0 := (b2.frozen (p := ⟨w.heap.size + 1, 0, none⟩) (cell_lt r0)).trans rf0
  replace rf1 := (b2.frozen (p := ⟨w.heap.size + 1, 1, none⟩) (cell_lt r1)).trans rf1
  replace r0 := cell_carry b2 r0
  replace r1 := cell_carry b2 r1
  have hB2 := hB.trans (b2.mono hB.size)
  have E2 := Lib.hid (pair_set r0 r1 (.int .i64 m) (.slice A2 vs.length c2))
  have n1 : Only (w.heap.size + 1) (w.heap.size + 2) w2 (w2.setCell ⟨w.heap.size + 1, 0, none⟩ (.int .i64 m)) := ⟨rfl, rfl, rfl, by simp [World.setCell], fun k _ hk => Below.heap_setCell _ _ _ _ (by simp; omega)⟩
  have n2 : Only (w.heap.size + 1) (w.heap.size + 2) (w2.setCell ⟨w.heap.size + 1, 0, none⟩ (.int .i64 m)) ((w2.setCell ⟨w.heap.size + 1, 0, none⟩ (.int .i64 m)).setCell ⟨w.heap.size + 1, 1, none⟩ (.slice A2 vs.length c2)) := ⟨rfl, rfl, rfl, by simp [World.setCell], fun k _ hk => Below.heap_setCell _ _ _ _ (by simp; omega)⟩
  have n3 := n1.trans n2
  have HO := Lib.hid ((o2.only n3 (.inr (by omega))).mono (show w.heap.size ≤ w1.heap.size by omega) n3.size)
  have HB := Lib.hid (hB2.trans (n3.toBelow (by omega) (by omega)))
  clear n1 n2 n3 o2 b2 hB2 K hw1 hw0
  go_wp2
  obtain ⟨e0, e1⟩ := E2.out
  exact bodyPost_ret (v := .tuple #[.agg #[.int .i64 m, .slice A2 vs.length c2], .bool true]) (by simp [results, Tryz.results35, go_sem, e0, e1]) rfl ⟨_, _, rfl, HO.out, HB.out⟩
/-- the first k of both are the same -/
def eqTo (xs ys : List Int) (k : Nat) : Bool := allN (fun i => decide (ix xs i = ix ys i)) k
theorem eqTo_all {xs ys : List Int} (hl : xs.length = ys.length) : eqTo xs ys xs.length = decide (xs = ys) := by
  unfold eqTo
  rw [Bool.eq_iff_iff, allN_iff, decide_eq_true_eq]
  constructor
  · intro h
    apply List.ext_getElem hl
    intro i h1 h2
    have := h i h1
    rw [decide_eq_true_eq, ix_lt h1, ix_lt h2] at this
    exact this
  · intro h i _
    rw [h]; simp
set_option maxHeartbeats 400000 in
theorem equal_any (A B : Option Addr) (n d c e : Nat) (xs ys : List Int) (w : World) (h : IntsAt w A n xs) (g : IntsAt w B d ys) (hn : n ≤ 1048576) (hd : d ≤ 1048576) :
    Calls Tryz.prog 36 #[.slice A n c, .slice B d e] w fun r w' => r = .returned (.bool (decide (xs = ys))) ∧ Below w.heap.size w w' := by
  obtain rfl := h.len
  obtain rfl := g.len
  by_cases hl : xs.length = ys.length
  case neg =>
    rw [decide_eq_false (fun e : xs = ys => hl (by rw [e]))]
    have h1 : ((xs.length : Int) == (ys.length : Int)) = false := by rw [beq_eq_false_iff_ne]; omega
    have h2 : ¬ ((xs.length : Int) = (ys.length : Int)) := by omega
    go_enter Tryz.func36, Tryz.ntmps36
    go_wp2
    go_ret
    exact ⟨rfl, Below.refl _ _⟩
  rw [← eqTo_all hl]
  have hli : (xs.length : Int) = (ys.length : Int) := by omega
  obtain ⟨T, hT⟩ : ∃ T, eqTo xs ys xs.length = T := ⟨_, rfl⟩
  have HT := Lib.hid hT
  have HF : Hid (∀ k, k < xs.length → ix xs k ≠ ix ys k → eqTo xs ys xs.length = false) := fun k hk hne => allN_false hk (decide_eq_false hne)
  have HS : Hid (∀ k, eqTo xs ys k = true → ix xs k = ix ys k → eqTo xs ys (k + 1) = true) := fun k h1 h2 => allN_step h1 (decide_eq_true h2)
  rw [hT] at HF ⊢
  have H0 : Hid (eqTo xs ys 0 = true) := rfl
  clear hT
  have hl' := Lib.hid hl
  clear hl
  go_enter Tryz.func36, Tryz.ntmps36
  go_wp2
  go_loopw [5, 13] (fun _ i wr => ∃ k : Nat, k ≤ xs.length ∧ i = .int .i64 k ∧ Hid (eqTo xs ys k = true) ∧ Below w.heap.size w wr) (fun _ i _ => xs.length - (intOf i).toNat)
  case atStart => exact ⟨0, Nat.zero_le _, rfl, H0, Below.refl _ _⟩
  case round =>
    obtain ⟨k, hk, rfl, HE, hb⟩ := hrel
    by_cases hlt : k < xs.length
    · obtain ⟨b1, o1, rfl, _, hc1⟩ := (h.below hb).at_ hlt
      obtain ⟨b2, o2, rfl, _, hc2⟩ := (g.below hb).at_ (by rw [← hl'.out]; exact hlt)
      have d1 := hc1 k hlt
      have d2 := hc2 k (by rw [← hl'.out]; exact hlt)
      have i1 : (k : Int) < (xs.length : Int) := by omega
      have i2 : (k : Int) < (ys.length : Int) := by omega
      clear hc1 hc2
      have HFk := Lib.hid (HF.out k hlt)
      have HSk := Lib.hid (HS.out k HE.out)
      generalize ix xs k = x at *
      generalize ix ys k = y at *
      by_cases hxy : x = y
      · subst hxy
        have HN := Lib.hid (HSk.out rfl)
        clear HFk HSk
        go_wp2
        go_quiet (fail)
        go_wp2
        go_roundw
        case rel => exact ⟨k + 1, by omega, by go_num, HN, hb.trans (below_of_drewN rfl)⟩
        case measure => simp [intOf]; omega
      · have HN := Lib.hid (HFk.out hxy)
        have e1 : (x == y) = false := by rw [beq_eq_false_iff_ne]; exact hxy
        clear HFk HSk
        go_wp2
        go_quiet (fail)
        go_wp2
        go_ret
        exact ⟨ret_b HN.out.symm, hb.trans (below_of_drewN rfl)⟩
    · obtain rfl : k = xs.length := by omega
      have HN : Hid (true = T) := by show _ = _; rw [← HT.out, HE.out]
      go_wp2
      go_ret
      exact ⟨ret_b HN.out, hb⟩
set_option maxRecDepth 100000 in
set_option maxHeartbeats 1000000 in
theorem implReversalNo (m : Int) (A : Option Addr) (n c : Nat) (vs : List Vt) (w : World) (h : VotesAt w A n vs) (hp : profOk m vs = true) :
    Calls Tryz.prog 13 #[.int .i64 2, .agg #[.int .i64 m, .slice A n c]] w fun e w' => e = .returned (.bool false) ∧ Below w.heap.size w w' := by
  obtain rfl := h.len
  have hB := alloc_below w (.cells #[.int .i64 m, .slice A vs.length c] 24)
  obtain ⟨x0, x1⟩ := PBox.new w m A vs.length c 24 rfl
  replace h := h.below hB
  generalize hw0 : w.alloc (.cells #[.int .i64 m, .slice A vs.length c] 24) = w0 at *
  have F := pf_of hp
  obtain ⟨hn, hx⟩ := small_of F
  have hq := revV_ok hp
  obtain ⟨hn', hx'⟩ := small_of (pf_of hq)
  have hrl : (revV vs).length = vs.length := by unfold revV; simp
  have K := Lib.hid (implReverseProfile m A vs.length c vs w0 h hp)
  have KW := Lib.hid (fun W hW => implWinnersBy 2 m A vs.length c vs W hW hn hx)
  have KR := Lib.hid (fun A' c' W hW => implWinnersBy 2 m A' vs.length c' (revV vs) W hW hn hx')
  have HRB := Lib.hid (rev_borda hp)
  have tl : (winnersR 2 m vs).length ≤ 1048576 := by
    have S := scR2 F.m1 F.m5
    rw [winnersR_yes hp, S.is vs hp]
    have := greatTo_len (scores m vs (bordW m)) (scores m vs (bordW m)).length
    have h5 := scores_len m vs (bordW m)
    have := F.m5
    unfold greatest; omega
  have tl' : (winnersR 2 m (revV vs)).length ≤ 1048576 := by
    have S := scR2 F.m1 F.m5
    rw [winnersR_yes hq, S.is _ hq]
    have := greatTo_len (scores m (revV vs) (bordW m)) (scores m (revV vs) (bordW m)).length
    have h5 := scores_len m (revV vs) (bordW m)
    have := F.m5
    unfold greatest; omega
  generalize winnersR 2 m vs = T at *
  generalize winnersR 2 m (revV vs) = T' at *
  clear hx hx' F hp hq
  go_enter Tryz.func13, Tryz.ntmps13
  go_wp2_with fail
  (with_reducible refine K.out.mono ?_)
  rintro e w1 ⟨A1, c1, rfl, o1, b1⟩
  have b2 := alloc_below w1 (.cells #[.int .i64 m, .slice A1 vs.length c1] 24)
  obtain ⟨z0, z1⟩ := PBox.new w1 m A1 vs.length c1 24 rfl
  have b12 := b1.trans (b2.mono b1.size)
  have hv1 := (o1.alloc (.cells #[.int .i64 m, .slice A1 vs.length c1] 24)).at_
  replace x0 := cell_carry b12 x0
  replace x1 := cell_carry b12 x1
  replace h := h.below b12
  replace hB := hB.trans (b12.mono hB.size)
  clear b1 b2 b12 K hw0 o1
  generalize hw2 : w1.alloc (.cells #[.int .i64 m, .slice A1 vs.length c1] 24) = w2 at *
  go_wp2_with fail
  (with_reducible refine (KW.out _ h).mono ?_)
  rintro e w3 ⟨A3, c3, rfl, o3, b3⟩
  replace x0 := cell_carry b3 x0
  replace x1 := cell_carry b3 x1
  replace z0 := cell_carry b3 z0
  replace z1 := cell_carry b3 z1
  replace hv1 := hv1.below b3
  replace hB := hB.trans (b3.mono hB.size)
  clear b3 KW hw2 h
  by_cases hm2 : 2 ≤ m
  case neg =>
    go_wp2
    go_ret
    exact ⟨rfl, hB⟩
  by_cases ht1 : T.length = 1
  case neg =>
    have e1 : ((T.length : Int) == 1) = false := by rw [beq_eq_false_iff_ne]; omega
    have e2 : ¬ (T.length : Int) = 1 := by omega
    clear ht1
    go_wp2
    go_ret
    exact ⟨rfl, hB⟩
  have HNE := Lib.hid (HRB.out hm2 ht1)
  have e1 : (T.length : Int) = 1 := by omega
  have hT3 := o3.at_
  go_wp2_with fail
  (with_reducible refine (KR.out _ _ _ hv1).mono ?_)
  rintro e w4 ⟨A4, c4, rfl, o4, b4⟩
  have KE := Lib.hid (equal_any A3 A4 T.length T'.length c3 c4 T T' w4 (hT3.below b4) o4.at_ tl tl')
  rw [decide_eq_false HNE.out, ht1] at KE
  replace hB := hB.trans (b4.mono hB.size)
  clear b4 KR hv1 o4 o3 hT3
  go_wp2_with fail
  (with_reducible refine KE.out.mono ?_)
  rintro e w5 ⟨rfl, b5⟩
  replace hB := hB.trans (b5.mono hB.size)
  clear b5 KE
  go_wp2
  go_ret
  exact ⟨rfl, hB⟩
end Go.Proofs.YtaanppihgldeaaaGreatDoor
