/- Winners by a rule, the program's side. Printed by gen/winners.py. -/
import Derived.Test.YtaanppihgldeaaaGreatDoorW11
import Derived.Test.YtaanppihgldeaaaGreatDoorW12
import Derived.Test.YtaanppihgldeaaaGreatDoorW14
import Derived.Test.YtaanppihgldeaaaGreatDoorW16
namespace Go.Proofs.YtaanppihgldeaaaGreatDoor
set_option linter.unusedSimpArgs false
set_option linter.unusedVariables false
set_option linter.unusedVariables false
open Go.RowKit

noncomputable def winnersP (rule m : Int) (vs : List Vt) : List Int :=
  if rule = 1 then greatest (scoresR m vs (plurW m)) else if rule = 2 then greatest (scoresR m vs (bordW m)) else if rule = 3 then greatest (scoresR m vs (vetoW m))
  else if rule = 4 then greatest (copelandR m vs) else if rule = 5 then greatest (maximinR m vs) else if rule = 6 then [runoffW m vs]
  else if rule = 7 then [lastI (elimR (instF vs) m vs)] else if rule = 8 then [lastI (elimR (coomF vs) m vs)] else if rule = 9 then [lastI (elimR (baldN vs) m vs)]
  else if rule = 10 then [bucklinW m vs] else if rule = 11 then schulzeR m vs else if rule = 12 then [ix (pairsRank m vs) 0] else if rule = 13 then [ix (kemenyR m vs) 0] else []
noncomputable def winnersR (rule m : Int) (vs : List Vt) : List Int := if profOk m vs then winnersP rule m vs else []
theorem winnersR_no {rule m : Int} {vs : List Vt} (h : profOk m vs = false) : winnersR rule m vs = [] := by unfold winnersR; rw [h]; rfl
theorem winnersR_yes {rule m : Int} {vs : List Vt} (h : profOk m vs = true) : winnersR rule m vs = winnersP rule m vs := by unfold winnersR; rw [h]; rfl
theorem OwnI.lit1 (w : World) (x : Int) : OwnI (w.alloc (.cells #[.int .i64 x] 3)) w.heap.size (w.heap.size + 1) (.slice (some ⟨w.heap.size, 0, none⟩) 1 1) [x] :=
  ⟨World.ownsRow_lit (e := 3) (size := 1) (base := w.heap.size) w #[.int .i64 x] 1 (Nat.le_refl _) (by unfold maxLen; omega) rfl, fun k e => by simp [Value.ownBlock] at e; omega⟩
theorem elimR_len {wf : List Int → Int → Int} {m : Int} {vs : List Vt} : (elimR wf m vs).length ≤ 5 := by
  unfold elimR
  cases hp : profOk m vs
  · simp
  · rw [if_pos rfl, elimP, elim_len]; have := (pf_of hp).m5; omega
theorem copelandR_len {m : Int} {vs : List Vt} : (copelandR m vs).length ≤ 5 := by
  unfold copelandR
  cases hp : profOk m vs
  · simp
  · rw [if_pos rfl, copeland, lfn_len]; have := (pf_of hp).m5; omega
theorem maximinR_len {m : Int} {vs : List Vt} : (maximinR m vs).length ≤ 5 := by
  unfold maximinR
  cases hp : profOk m vs
  · simp
  · rw [if_pos rfl, maximin, lfn_len]; have := (pf_of hp).m5; omega
theorem kemenyR_len {m : Int} {vs : List Vt} (F : PF m vs) : 0 < (kemenyR m vs).length := by
  have h0 := rank_some F.m1 F.m5
  have h1 := rank_all' F.m1 F.m5 (rx_mem (minIx_lt (kem vs) (allRankings m) _ h0))
  have h2 := (rankOk_facts h1).2.2.1
  have := F.m1
  unfold kemenyR leastR
  omega
theorem pairsRank_len {m : Int} {vs : List Vt} (F : PF m vs) : 0 < (pairsRank m vs).length := by
  unfold pairsRank; rw [prk_len]; have := F.m1; omega
set_option maxRecDepth 100000 in
set_option maxHeartbeats 1000000 in
theorem implWinners_1 (m : Int) (A : Option Addr) (n c : Nat) (vs : List Vt) (w : World) (h : VotesAt w A n vs) (hn : n ≤ 1048576) (hx : ∀ v ∈ vs, v.r.length ≤ 1048576) (hp : profOk m vs = true) :
    Calls Tryz.prog 27 #[.int .i64 1, .agg #[.int .i64 m, .slice A n c]] w fun e w' => ∃ A' c', e = .returned (.slice A' (winnersP 1 m vs).length c') ∧ OwnI w' w.heap.size w'.heap.size (.slice A' (winnersP 1 m vs).length c') (winnersP 1 m vs) ∧ Below w.heap.size w w' := by
  obtain rfl := h.len
  have hB := alloc_below w (.cells #[.int .i64 m, .slice A vs.length c] 24)
  obtain ⟨x0, x1⟩ := PBox.new w m A vs.length c 24 rfl
  replace h := h.below hB
  generalize hw0 : w.alloc (.cells #[.int .i64 m, .slice A vs.length c] 24) = w0 at *
  have K := Lib.hid (implProfileOk m A vs.length c vs _ h hn hx)
  rw [hp] at K
  have F := Lib.hid (pf_of hp)
  have HW : winnersP 1 m vs = greatest (scoresR m vs (plurW m)) := by unfold winnersP; simp
  rw [HW]
  have KW := Lib.hid (fun W => implPlurality m W)
  have wl : (plurW m).length ≤ 5 := wts_len
  have KS := Lib.hid (fun B d W hW q => implScoreWinners m A vs.length c vs B (plurW m).length d (plurW m) W hW hn hx q (by omega))
  clear hx F hp HW
  have HT : Hid (greatest (scoresR m vs (plurW m)) = greatest (scoresR m vs (plurW m))) := rfl
  obtain ⟨T, hT⟩ : ∃ T, greatest (scoresR m vs (plurW m)) = T := ⟨_, rfl⟩
  rw [hT] at KS ⊢
  generalize plurW m = ws at *
  clear HT hT
  go_enter Tryz.func27, Tryz.ntmps27
  go_wp2_with fail
  (with_reducible refine (K.out).mono ?_)
  rintro e w1 ⟨rfl, b1⟩
  replace x0 := cell_carry b1 x0
  replace x1 := cell_carry b1 x1
  replace h := h.below b1
  replace hB := hB.trans (b1.mono hB.size)
  clear b1
  clear K hw0
  have hbw := (Below.refl w1.heap.size w1).drew
  go_upto_region 5 with fail
  go_region_held3 (fun w' => w'.cell? ⟨w.heap.size, 0, none⟩ = some (.int .i64 m) ∧ w'.cell? ⟨w.heap.size, 1, none⟩ = some (.slice A vs.length c)) ((refine ⟨?_, ?_⟩ <;> (first | assumption | go_keep)))
    (first
      | (go_at_call 56; (with_reducible refine (KW.out _).mono ?_); rintro e w2 ⟨A2, c2, rfl, o2, b2⟩; have x0 := cell_carry b2 x0; have x1 := cell_carry b2 x1; have hbw := hbw.trans (b2.mono hbw.size))
      | (go_at_call 55; have KK := KS.out _ c2 _ (h.below hbw) o2.at_; (with_reducible refine KK.mono ?_); rintro e w3 ⟨A3, c3, rfl, o3, b3⟩; have x0 := cell_carry b3 x0; have x1 := cell_carry b3 x1; have hz3 := hbw.size; have hbw := hbw.trans (b3.mono hbw.size)))
  have hz := hB.size
  go_wp2
  go_ret
  exact ⟨_, _, rfl, o3.mono (by omega) (Nat.le_refl _), hB.trans (hbw.mono hB.size)⟩
set_option maxRecDepth 100000 in
set_option maxHeartbeats 1000000 in
theorem implWinners_2 (m : Int) (A : Option Addr) (n c : Nat) (vs : List Vt) (w : World) (h : VotesAt w A n vs) (hn : n ≤ 1048576) (hx : ∀ v ∈ vs, v.r.length ≤ 1048576) (hp : profOk m vs = true) :
    Calls Tryz.prog 27 #[.int .i64 2, .agg #[.int .i64 m, .slice A n c]] w fun e w' => ∃ A' c', e = .returned (.slice A' (winnersP 2 m vs).length c') ∧ OwnI w' w.heap.size w'.heap.size (.slice A' (winnersP 2 m vs).length c') (winnersP 2 m vs) ∧ Below w.heap.size w w' := by
  obtain rfl := h.len
  have hB := alloc_below w (.cells #[.int .i64 m, .slice A vs.length c] 24)
  obtain ⟨x0, x1⟩ := PBox.new w m A vs.length c 24 rfl
  replace h := h.below hB
  generalize hw0 : w.alloc (.cells #[.int .i64 m, .slice A vs.length c] 24) = w0 at *
  have K := Lib.hid (implProfileOk m A vs.length c vs _ h hn hx)
  rw [hp] at K
  have F := Lib.hid (pf_of hp)
  have HW : winnersP 2 m vs = greatest (scoresR m vs (bordW m)) := by unfold winnersP; simp
  rw [HW]
  have KW := Lib.hid (fun W => implBorda m W)
  have wl : (bordW m).length ≤ 5 := wts_len
  have KS := Lib.hid (fun B d W hW q => implScoreWinners m A vs.length c vs B (bordW m).length d (bordW m) W hW hn hx q (by omega))
  clear hx F hp HW
  have HT : Hid (greatest (scoresR m vs (bordW m)) = greatest (scoresR m vs (bordW m))) := rfl
  obtain ⟨T, hT⟩ : ∃ T, greatest (scoresR m vs (bordW m)) = T := ⟨_, rfl⟩
  rw [hT] at KS ⊢
  generalize bordW m = ws at *
  clear HT hT
  go_enter Tryz.func27, Tryz.ntmps27
  go_wp2_with fail
  (with_reducible refine (K.out).mono ?_)
  rintro e w1 ⟨rfl, b1⟩
  replace x0 := cell_carry b1 x0
  replace x1 := cell_carry b1 x1
  replace h := h.below b1
  replace hB := hB.trans (b1.mono hB.size)
  clear b1
  clear K hw0
  have hbw := (Below.refl w1.heap.size w1).drew
  go_upto_region 7 with fail
  go_region_held3 (fun w' => w'.cell? ⟨w.heap.size, 0, none⟩ = some (.int .i64 m) ∧ w'.cell? ⟨w.heap.size, 1, none⟩ = some (.slice A vs.length c)) ((refine ⟨?_, ?_⟩ <;> (first | assumption | go_keep)))
    (first
      | (go_at_call 57; (with_reducible refine (KW.out _).mono ?_); rintro e w2 ⟨A2, c2, rfl, o2, b2⟩; have x0 := cell_carry b2 x0; have x1 := cell_carry b2 x1; have hbw := hbw.trans (b2.mono hbw.size))
      | (go_at_call 55; have KK := KS.out _ c2 _ (h.below hbw) o2.at_; (with_reducible refine KK.mono ?_); rintro e w3 ⟨A3, c3, rfl, o3, b3⟩; have x0 := cell_carry b3 x0; have x1 := cell_carry b3 x1; have hz3 := hbw.size; have hbw := hbw.trans (b3.mono hbw.size)))
  have hz := hB.size
  go_wp2
  go_ret
  exact ⟨_, _, rfl, o3.mono (by omega) (Nat.le_refl _), hB.trans (hbw.mono hB.size)⟩
set_option maxRecDepth 100000 in
set_option maxHeartbeats 1000000 in
theorem implWinners_3 (m : Int) (A : Option Addr) (n c : Nat) (vs : List Vt) (w : World) (h : VotesAt w A n vs) (hn : n ≤ 1048576) (hx : ∀ v ∈ vs, v.r.length ≤ 1048576) (hp : profOk m vs = true) :
    Calls Tryz.prog 27 #[.int .i64 3, .agg #[.int .i64 m, .slice A n c]] w fun e w' => ∃ A' c', e = .returned (.slice A' (winnersP 3 m vs).length c') ∧ OwnI w' w.heap.size w'.heap.size (.slice A' (winnersP 3 m vs).length c') (winnersP 3 m vs) ∧ Below w.heap.size w w' := by
  obtain rfl := h.len
  have hB := alloc_below w (.cells #[.int .i64 m, .slice A vs.length c] 24)
  obtain ⟨x0, x1⟩ := PBox.new w m A vs.length c 24 rfl
  replace h := h.below hB
  generalize hw0 : w.alloc (.cells #[.int .i64 m, .slice A vs.length c] 24) = w0 at *
  have K := Lib.hid (implProfileOk m A vs.length c vs _ h hn hx)
  rw [hp] at K
  have F := Lib.hid (pf_of hp)
  have HW : winnersP 3 m vs = greatest (scoresR m vs (vetoW m)) := by unfold winnersP; simp
  rw [HW]
  have KW := Lib.hid (fun W => implVeto m W)
  have wl : (vetoW m).length ≤ 5 := wts_len
  have KS := Lib.hid (fun B d W hW q => implScoreWinners m A vs.length c vs B (vetoW m).length d (vetoW m) W hW hn hx q (by omega))
  clear hx F hp HW
  have HT : Hid (greatest (scoresR m vs (vetoW m)) = greatest (scoresR m vs (vetoW m))) := rfl
  obtain ⟨T, hT⟩ : ∃ T, greatest (scoresR m vs (vetoW m)) = T := ⟨_, rfl⟩
  rw [hT] at KS ⊢
  generalize vetoW m = ws at *
  clear HT hT
  go_enter Tryz.func27, Tryz.ntmps27
  go_wp2_with fail
  (with_reducible refine (K.out).mono ?_)
  rintro e w1 ⟨rfl, b1⟩
  replace x0 := cell_carry b1 x0
  replace x1 := cell_carry b1 x1
  replace h := h.below b1
  replace hB := hB.trans (b1.mono hB.size)
  clear b1
  clear K hw0
  have hbw := (Below.refl w1.heap.size w1).drew
  go_upto_region 9 with fail
  go_region_held3 (fun w' => w'.cell? ⟨w.heap.size, 0, none⟩ = some (.int .i64 m) ∧ w'.cell? ⟨w.heap.size, 1, none⟩ = some (.slice A vs.length c)) ((refine ⟨?_, ?_⟩ <;> (first | assumption | go_keep)))
    (first
      | (go_at_call 58; (with_reducible refine (KW.out _).mono ?_); rintro e w2 ⟨A2, c2, rfl, o2, b2⟩; have x0 := cell_carry b2 x0; have x1 := cell_carry b2 x1; have hbw := hbw.trans (b2.mono hbw.size))
      | (go_at_call 55; have KK := KS.out _ c2 _ (h.below hbw) o2.at_; (with_reducible refine KK.mono ?_); rintro e w3 ⟨A3, c3, rfl, o3, b3⟩; have x0 := cell_carry b3 x0; have x1 := cell_carry b3 x1; have hz3 := hbw.size; have hbw := hbw.trans (b3.mono hbw.size)))
  have hz := hB.size
  go_wp2
  go_ret
  exact ⟨_, _, rfl, o3.mono (by omega) (Nat.le_refl _), hB.trans (hbw.mono hB.size)⟩
set_option maxRecDepth 100000 in
set_option maxHeartbeats 1000000 in
theorem implWinners_4 (m : Int) (A : Option Addr) (n c : Nat) (vs : List Vt) (w : World) (h : VotesAt w A n vs) (hn : n ≤ 1048576) (hx : ∀ v ∈ vs, v.r.length ≤ 1048576) (hp : profOk m vs = true) :
    Calls Tryz.prog 27 #[.int .i64 4, .agg #[.int .i64 m, .slice A n c]] w fun e w' => ∃ A' c', e = .returned (.slice A' (winnersP 4 m vs).length c') ∧ OwnI w' w.heap.size w'.heap.size (.slice A' (winnersP 4 m vs).length c') (winnersP 4 m vs) ∧ Below w.heap.size w w' := by
  obtain rfl := h.len
  have hB := alloc_below w (.cells #[.int .i64 m, .slice A vs.length c] 24)
  obtain ⟨x0, x1⟩ := PBox.new w m A vs.length c 24 rfl
  replace h := h.below hB
  generalize hw0 : w.alloc (.cells #[.int .i64 m, .slice A vs.length c] 24) = w0 at *
  have K := Lib.hid (implProfileOk m A vs.length c vs _ h hn hx)
  rw [hp] at K
  have F := Lib.hid (pf_of hp)
  have HW : winnersP 4 m vs = greatest (copelandR m vs) := by unfold winnersP; simp
  rw [HW]
  have sl := copelandR_len (m := m) (vs := vs)
  have K2 := Lib.hid (fun W hW => implCopeland m A vs.length c vs W hW hn hx)
  generalize copelandR m vs = xs at *
  clear hx F hp HW
  go_enter Tryz.func27, Tryz.ntmps27
  go_wp2_with fail
  (with_reducible refine (K.out).mono ?_)
  rintro e w1 ⟨rfl, b1⟩
  replace x0 := cell_carry b1 x0
  replace x1 := cell_carry b1 x1
  replace h := h.below b1
  replace hB := hB.trans (b1.mono hB.size)
  clear b1
  clear K hw0
  go_wp2_with fail
  (with_reducible refine (K2.out _ h).mono ?_)
  rintro e w2 ⟨A2, c2, rfl, o2, b2⟩
  replace hB := hB.trans (b2.mono hB.size)
  clear b2 K2
  go_wp2_with fail
  (with_reducible refine (implGreatest A2 _ c2 xs _ o2.at_ (by omega)).mono ?_)
  rintro e w3 ⟨A3, c3, rfl, o3, b3⟩
  have hz := hB.size
  go_wp2
  go_ret
  exact ⟨_, _, rfl, o3.mono hz (Nat.le_refl _), hB.trans (b3.mono hB.size)⟩
set_option maxRecDepth 100000 in
set_option maxHeartbeats 1000000 in
theorem implWinners_5 (m : Int) (A : Option Addr) (n c : Nat) (vs : List Vt) (w : World) (h : VotesAt w A n vs) (hn : n ≤ 1048576) (hx : ∀ v ∈ vs, v.r.length ≤ 1048576) (hp : profOk m vs = true) :
    Calls Tryz.prog 27 #[.int .i64 5, .agg #[.int .i64 m, .slice A n c]] w fun e w' => ∃ A' c', e = .returned (.slice A' (winnersP 5 m vs).length c') ∧ OwnI w' w.heap.size w'.heap.size (.slice A' (winnersP 5 m vs).length c') (winnersP 5 m vs) ∧ Below w.heap.size w w' := by
  obtain rfl := h.len
  have hB := alloc_below w (.cells #[.int .i64 m, .slice A vs.length c] 24)
  obtain ⟨x0, x1⟩ := PBox.new w m A vs.length c 24 rfl
  replace h := h.below hB
  generalize hw0 : w.alloc (.cells #[.int .i64 m, .slice A vs.length c] 24) = w0 at *
  have K := Lib.hid (implProfileOk m A vs.length c vs _ h hn hx)
  rw [hp] at K
  have F := Lib.hid (pf_of hp)
  have HW : winnersP 5 m vs = greatest (maximinR m vs) := by unfold winnersP; simp
  rw [HW]
  have sl := maximinR_len (m := m) (vs := vs)
  have K2 := Lib.hid (fun W hW => implMaximin m A vs.length c vs W hW hn hx)
  generalize maximinR m vs = xs at *
  clear hx F hp HW
  go_enter Tryz.func27, Tryz.ntmps27
  go_wp2_with fail
  (with_reducible refine (K.out).mono ?_)
  rintro e w1 ⟨rfl, b1⟩
  replace x0 := cell_carry b1 x0
  replace x1 := cell_carry b1 x1
  replace h := h.below b1
  replace hB := hB.trans (b1.mono hB.size)
  clear b1
  clear K hw0
  go_wp2_with fail
  (with_reducible refine (K2.out _ h).mono ?_)
  rintro e w2 ⟨A2, c2, rfl, o2, b2⟩
  replace hB := hB.trans (b2.mono hB.size)
  clear b2 K2
  go_wp2_with fail
  (with_reducible refine (implGreatest A2 _ c2 xs _ o2.at_ (by omega)).mono ?_)
  rintro e w3 ⟨A3, c3, rfl, o3, b3⟩
  have hz := hB.size
  go_wp2
  go_ret
  exact ⟨_, _, rfl, o3.mono hz (Nat.le_refl _), hB.trans (b3.mono hB.size)⟩
set_option maxRecDepth 100000 in
set_option maxHeartbeats 1000000 in
theorem implWinners_6 (m : Int) (A : Option Addr) (n c : Nat) (vs : List Vt) (w : World) (h : VotesAt w A n vs) (hn : n ≤ 1048576) (hx : ∀ v ∈ vs, v.r.length ≤ 1048576) (hp : profOk m vs = true) :
    Calls Tryz.prog 27 #[.int .i64 6, .agg #[.int .i64 m, .slice A n c]] w fun e w' => ∃ A' c', e = .returned (.slice A' (winnersP 6 m vs).length c') ∧ OwnI w' w.heap.size w'.heap.size (.slice A' (winnersP 6 m vs).length c') (winnersP 6 m vs) ∧ Below w.heap.size w w' := by
  obtain rfl := h.len
  have hB := alloc_below w (.cells #[.int .i64 m, .slice A vs.length c] 24)
  obtain ⟨x0, x1⟩ := PBox.new w m A vs.length c 24 rfl
  replace h := h.below hB
  generalize hw0 : w.alloc (.cells #[.int .i64 m, .slice A vs.length c] 24) = w0 at *
  have K := Lib.hid (implProfileOk m A vs.length c vs _ h hn hx)
  rw [hp] at K
  have F := Lib.hid (pf_of hp)
  have HW : winnersP 6 m vs = [runoffW m vs] := by unfold winnersP; simp
  rw [HW]
  have K2 := Lib.hid (fun W hW => implRunoff m A vs.length c vs W hW hn hx)
  generalize runoffW m vs = y at *
  clear hx F hp HW
  go_enter Tryz.func27, Tryz.ntmps27
  go_wp2_with fail
  (with_reducible refine (K.out).mono ?_)
  rintro e w1 ⟨rfl, b1⟩
  replace x0 := cell_carry b1 x0
  replace x1 := cell_carry b1 x1
  replace h := h.below b1
  replace hB := hB.trans (b1.mono hB.size)
  clear b1
  clear K hw0
  go_wp2_with fail
  (with_reducible refine (K2.out _ h).mono ?_)
  rintro e w2 ⟨rfl, b2⟩
  replace hB := hB.trans (b2.mono hB.size)
  clear b2 K2
  have hz := hB.size
  have o9 := (OwnI.lit1 w2 y).mono hz (show w2.heap.size + 1 ≤ (w2.alloc (.cells #[.int .i64 (y)] 3)).heap.size by simp)
  have b9 := hB.trans ((alloc_below w2 (.cells #[.int .i64 (y)] 3)).mono hz)
  go_wp2
  go_ret
  exact ⟨_, _, rfl, o9, b9⟩
set_option maxRecDepth 100000 in
set_option maxHeartbeats 1000000 in
theorem implWinners_10 (m : Int) (A : Option Addr) (n c : Nat) (vs : List Vt) (w : World) (h : VotesAt w A n vs) (hn : n ≤ 1048576) (hx : ∀ v ∈ vs, v.r.length ≤ 1048576) (hp : profOk m vs = true) :
    Calls Tryz.prog 27 #[.int .i64 10, .agg #[.int .i64 m, .slice A n c]] w fun e w' => ∃ A' c', e = .returned (.slice A' (winnersP 10 m vs).length c') ∧ OwnI w' w.heap.size w'.heap.size (.slice A' (winnersP 10 m vs).length c') (winnersP 10 m vs) ∧ Below w.heap.size w w' := by
  obtain rfl := h.len
  have hB := alloc_below w (.cells #[.int .i64 m, .slice A vs.length c] 24)
  obtain ⟨x0, x1⟩ := PBox.new w m A vs.length c 24 rfl
  replace h := h.below hB
  generalize hw0 : w.alloc (.cells #[.int .i64 m, .slice A vs.length c] 24) = w0 at *
  have K := Lib.hid (implProfileOk m A vs.length c vs _ h hn hx)
  rw [hp] at K
  have F := Lib.hid (pf_of hp)
  have HW : winnersP 10 m vs = [bucklinW m vs] := by unfold winnersP; simp
  rw [HW]
  have K2 := Lib.hid (fun W hW => implBucklin m A vs.length c vs W hW hn hx)
  generalize bucklinW m vs = y at *
  clear hx F hp HW
  go_enter Tryz.func27, Tryz.ntmps27
  go_wp2_with fail
  (with_reducible refine (K.out).mono ?_)
  rintro e w1 ⟨rfl, b1⟩
  replace x0 := cell_carry b1 x0
  replace x1 := cell_carry b1 x1
  replace h := h.below b1
  replace hB := hB.trans (b1.mono hB.size)
  clear b1
  clear K hw0
  go_wp2_with fail
  (with_reducible refine (K2.out _ h).mono ?_)
  rintro e w2 ⟨rfl, b2⟩
  replace hB := hB.trans (b2.mono hB.size)
  clear b2 K2
  have hz := hB.size
  have o9 := (OwnI.lit1 w2 y).mono hz (show w2.heap.size + 1 ≤ (w2.alloc (.cells #[.int .i64 (y)] 3)).heap.size by simp)
  have b9 := hB.trans ((alloc_below w2 (.cells #[.int .i64 (y)] 3)).mono hz)
  go_wp2
  go_ret
  exact ⟨_, _, rfl, o9, b9⟩
set_option maxRecDepth 100000 in
set_option maxHeartbeats 1000000 in
theorem implWinners_7 (m : Int) (A : Option Addr) (n c : Nat) (vs : List Vt) (w : World) (h : VotesAt w A n vs) (hn : n ≤ 1048576) (hx : ∀ v ∈ vs, v.r.length ≤ 1048576) (hp : profOk m vs = true) :
    Calls Tryz.prog 27 #[.int .i64 7, .agg #[.int .i64 m, .slice A n c]] w fun e w' => ∃ A' c', e = .returned (.slice A' (winnersP 7 m vs).length c') ∧ OwnI w' w.heap.size w'.heap.size (.slice A' (winnersP 7 m vs).length c') (winnersP 7 m vs) ∧ Below w.heap.size w w' := by
  obtain rfl := h.len
  have hB := alloc_below w (.cells #[.int .i64 m, .slice A vs.length c] 24)
  obtain ⟨x0, x1⟩ := PBox.new w m A vs.length c 24 rfl
  replace h := h.below hB
  generalize hw0 : w.alloc (.cells #[.int .i64 m, .slice A vs.length c] 24) = w0 at *
  have K := Lib.hid (implProfileOk m A vs.length c vs _ h hn hx)
  rw [hp] at K
  have F := Lib.hid (pf_of hp)
  have HW : winnersP 7 m vs = [lastI (elimR (instF vs) m vs)] := by unfold winnersP; simp
  rw [HW]
  have sl := elimR_len (wf := instF vs) (m := m) (vs := vs)
  have K2 := Lib.hid (fun W hW => implInstant m A vs.length c vs W hW hn hx)
  generalize elimR (instF vs) m vs = xs at *
  have HL : Hid (lastI xs = lastI xs) := rfl
  clear hx F hp HW
  go_enter Tryz.func27, Tryz.ntmps27
  go_wp2_with fail
  (with_reducible refine (K.out).mono ?_)
  rintro e w1 ⟨rfl, b1⟩
  replace x0 := cell_carry b1 x0
  replace x1 := cell_carry b1 x1
  replace h := h.below b1
  replace hB := hB.trans (b1.mono hB.size)
  clear b1
  clear K hw0
  go_wp2_with fail
  (with_reducible refine (K2.out _ h).mono ?_)
  rintro e w2 ⟨A2, c2, rfl, o2, b2⟩
  replace hB := hB.trans (b2.mono hB.size)
  clear b2 K2
  have KL := Lib.hid (implLastOf A2 _ c2 xs _ o2.at_ (by omega))
  obtain ⟨y, hy⟩ : ∃ y, lastI xs = y := ⟨_, rfl⟩
  rw [hy] at KL
  have HY := Lib.hid hy
  clear hy HL
  go_wp2_with fail
  (with_reducible refine KL.out.mono ?_)
  rintro e w3 ⟨rfl, rfl⟩
  have hz := hB.size
  have o9 := (OwnI.lit1 w2 y).mono hz (show w2.heap.size + 1 ≤ (w2.alloc (.cells #[.int .i64 (y)] 3)).heap.size by simp)
  have b9 := hB.trans ((alloc_below w2 (.cells #[.int .i64 (y)] 3)).mono hz)
  rw [← HY.out] at o9
  clear o2 KL
  go_wp2
  go_ret
  exact ⟨_, _, rfl, by rw [HY.out] at o9 ⊢; exact o9, b9⟩
set_option maxRecDepth 100000 in
set_option maxHeartbeats 1000000 in
theorem implWinners_8 (m : Int) (A : Option Addr) (n c : Nat) (vs : List Vt) (w : World) (h : VotesAt w A n vs) (hn : n ≤ 1048576) (hx : ∀ v ∈ vs, v.r.length ≤ 1048576) (hp : profOk m vs = true) :
    Calls Tryz.prog 27 #[.int .i64 8, .agg #[.int .i64 m, .slice A n c]] w fun e w' => ∃ A' c', e = .returned (.slice A' (winnersP 8 m vs).length c') ∧ OwnI w' w.heap.size w'.heap.size (.slice A' (winnersP 8 m vs).length c') (winnersP 8 m vs) ∧ Below w.heap.size w w' := by
  obtain rfl := h.len
  have hB := alloc_below w (.cells #[.int .i64 m, .slice A vs.length c] 24)
  obtain ⟨x0, x1⟩ := PBox.new w m A vs.length c 24 rfl
  replace h := h.below hB
  generalize hw0 : w.alloc (.cells #[.int .i64 m, .slice A vs.length c] 24) = w0 at *
  have K := Lib.hid (implProfileOk m A vs.length c vs _ h hn hx)
  rw [hp] at K
  have F := Lib.hid (pf_of hp)
  have HW : winnersP 8 m vs = [lastI (elimR (coomF vs) m vs)] := by unfold winnersP; simp
  rw [HW]
  have sl := elimR_len (wf := coomF vs) (m := m) (vs := vs)
  have K2 := Lib.hid (fun W hW => implCoombs m A vs.length c vs W hW hn hx)
  generalize elimR (coomF vs) m vs = xs at *
  have HL : Hid (lastI xs = lastI xs) := rfl
  clear hx F hp HW
  go_enter Tryz.func27, Tryz.ntmps27
  go_wp2_with fail
  (with_reducible refine (K.out).mono ?_)
  rintro e w1 ⟨rfl, b1⟩
  replace x0 := cell_carry b1 x0
  replace x1 := cell_carry b1 x1
  replace h := h.below b1
  replace hB := hB.trans (b1.mono hB.size)
  clear b1
  clear K hw0
  go_wp2_with fail
  (with_reducible refine (K2.out _ h).mono ?_)
  rintro e w2 ⟨A2, c2, rfl, o2, b2⟩
  replace hB := hB.trans (b2.mono hB.size)
  clear b2 K2
  have KL := Lib.hid (implLastOf A2 _ c2 xs _ o2.at_ (by omega))
  obtain ⟨y, hy⟩ : ∃ y, lastI xs = y := ⟨_, rfl⟩
  rw [hy] at KL
  have HY := Lib.hid hy
  clear hy HL
  go_wp2_with fail
  (with_reducible refine KL.out.mono ?_)
  rintro e w3 ⟨rfl, rfl⟩
  have hz := hB.size
  have o9 := (OwnI.lit1 w2 y).mono hz (show w2.heap.size + 1 ≤ (w2.alloc (.cells #[.int .i64 (y)] 3)).heap.size by simp)
  have b9 := hB.trans ((alloc_below w2 (.cells #[.int .i64 (y)] 3)).mono hz)
  rw [← HY.out] at o9
  clear o2 KL
  go_wp2
  go_ret
  exact ⟨_, _, rfl, by rw [HY.out] at o9 ⊢; exact o9, b9⟩
set_option maxRecDepth 100000 in
set_option maxHeartbeats 1000000 in
theorem implWinners_9 (m : Int) (A : Option Addr) (n c : Nat) (vs : List Vt) (w : World) (h : VotesAt w A n vs) (hn : n ≤ 1048576) (hx : ∀ v ∈ vs, v.r.length ≤ 1048576) (hp : profOk m vs = true) :
    Calls Tryz.prog 27 #[.int .i64 9, .agg #[.int .i64 m, .slice A n c]] w fun e w' => ∃ A' c', e = .returned (.slice A' (winnersP 9 m vs).length c') ∧ OwnI w' w.heap.size w'.heap.size (.slice A' (winnersP 9 m vs).length c') (winnersP 9 m vs) ∧ Below w.heap.size w w' := by
  obtain rfl := h.len
  have hB := alloc_below w (.cells #[.int .i64 m, .slice A vs.length c] 24)
  obtain ⟨x0, x1⟩ := PBox.new w m A vs.length c 24 rfl
  replace h := h.below hB
  generalize hw0 : w.alloc (.cells #[.int .i64 m, .slice A vs.length c] 24) = w0 at *
  have K := Lib.hid (implProfileOk m A vs.length c vs _ h hn hx)
  rw [hp] at K
  have F := Lib.hid (pf_of hp)
  have HW : winnersP 9 m vs = [lastI (elimR (baldN vs) m vs)] := by unfold winnersP; simp
  rw [HW]
  have sl := elimR_len (wf := baldN vs) (m := m) (vs := vs)
  have K2 := Lib.hid (fun W hW => implBaldwin m A vs.length c vs W hW hn hx)
  generalize elimR (baldN vs) m vs = xs at *
  have HL : Hid (lastI xs = lastI xs) := rfl
  clear hx F hp HW
  go_enter Tryz.func27, Tryz.ntmps27
  go_wp2_with fail
  (with_reducible refine (K.out).mono ?_)
  rintro e w1 ⟨rfl, b1⟩
  replace x0 := cell_carry b1 x0
  replace x1 := cell_carry b1 x1
  replace h := h.below b1
  replace hB := hB.trans (b1.mono hB.size)
  clear b1
  clear K hw0
  go_wp2_with fail
  (with_reducible refine (K2.out _ h).mono ?_)
  rintro e w2 ⟨A2, c2, rfl, o2, b2⟩
  replace hB := hB.trans (b2.mono hB.size)
  clear b2 K2
  have KL := Lib.hid (implLastOf A2 _ c2 xs _ o2.at_ (by omega))
  obtain ⟨y, hy⟩ : ∃ y, lastI xs = y := ⟨_, rfl⟩
  rw [hy] at KL
  have HY := Lib.hid hy
  clear hy HL
  go_wp2_with fail
  (with_reducible refine KL.out.mono ?_)
  rintro e w3 ⟨rfl, rfl⟩
  have hz := hB.size
  have o9 := (OwnI.lit1 w2 y).mono hz (show w2.heap.size + 1 ≤ (w2.alloc (.cells #[.int .i64 (y)] 3)).heap.size by simp)
  have b9 := hB.trans ((alloc_below w2 (.cells #[.int .i64 (y)] 3)).mono hz)
  rw [← HY.out] at o9
  clear o2 KL
  go_wp2
  go_ret
  exact ⟨_, _, rfl, by rw [HY.out] at o9 ⊢; exact o9, b9⟩
set_option maxRecDepth 100000 in
set_option maxHeartbeats 1000000 in
theorem implWinners_11 (m : Int) (A : Option Addr) (n c : Nat) (vs : List Vt) (w : World) (h : VotesAt w A n vs) (hn : n ≤ 1048576) (hx : ∀ v ∈ vs, v.r.length ≤ 1048576) (hp : profOk m vs = true) :
    Calls Tryz.prog 27 #[.int .i64 11, .agg #[.int .i64 m, .slice A n c]] w fun e w' => ∃ A' c', e = .returned (.slice A' (winnersP 11 m vs).length c') ∧ OwnI w' w.heap.size w'.heap.size (.slice A' (winnersP 11 m vs).length c') (winnersP 11 m vs) ∧ Below w.heap.size w w' := by
  obtain rfl := h.len
  have hB := alloc_below w (.cells #[.int .i64 m, .slice A vs.length c] 24)
  obtain ⟨x0, x1⟩ := PBox.new w m A vs.length c 24 rfl
  replace h := h.below hB
  generalize hw0 : w.alloc (.cells #[.int .i64 m, .slice A vs.length c] 24) = w0 at *
  have K := Lib.hid (implProfileOk m A vs.length c vs _ h hn hx)
  rw [hp] at K
  have F := Lib.hid (pf_of hp)
  have HW : winnersP 11 m vs = schulzeR m vs := by unfold winnersP; simp
  rw [HW]
  have K2 := Lib.hid (fun W hW => implSchulze m A vs.length c vs W hW hn hx)
  generalize schulzeR m vs = T at *
  clear hx F hp HW
  go_enter Tryz.func27, Tryz.ntmps27
  go_wp2_with fail
  (with_reducible refine (K.out).mono ?_)
  rintro e w1 ⟨rfl, b1⟩
  replace x0 := cell_carry b1 x0
  replace x1 := cell_carry b1 x1
  replace h := h.below b1
  replace hB := hB.trans (b1.mono hB.size)
  clear b1
  clear K hw0
  go_wp2_with fail
  (with_reducible refine (K2.out _ h).mono ?_)
  rintro e w2 ⟨A2, c2, rfl, o2, b2⟩
  have hz := hB.size
  go_wp2
  go_ret
  exact ⟨_, _, rfl, o2.mono hz (Nat.le_refl _), hB.trans (b2.mono hB.size)⟩
set_option maxRecDepth 100000 in
set_option maxHeartbeats 1000000 in
theorem implWinners_12 (m : Int) (A : Option Addr) (n c : Nat) (vs : List Vt) (w : World) (h : VotesAt w A n vs) (hn : n ≤ 1048576) (hx : ∀ v ∈ vs, v.r.length ≤ 1048576) (hp : profOk m vs = true) :
    Calls Tryz.prog 27 #[.int .i64 12, .agg #[.int .i64 m, .slice A n c]] w fun e w' => ∃ A' c', e = .returned (.slice A' (winnersP 12 m vs).length c') ∧ OwnI w' w.heap.size w'.heap.size (.slice A' (winnersP 12 m vs).length c') (winnersP 12 m vs) ∧ Below w.heap.size w w' := by
  obtain rfl := h.len
  have hB := alloc_below w (.cells #[.int .i64 m, .slice A vs.length c] 24)
  obtain ⟨x0, x1⟩ := PBox.new w m A vs.length c 24 rfl
  replace h := h.below hB
  generalize hw0 : w.alloc (.cells #[.int .i64 m, .slice A vs.length c] 24) = w0 at *
  have K := Lib.hid (implProfileOk m A vs.length c vs _ h hn hx)
  rw [hp] at K
  have F := Lib.hid (pf_of hp)
  have HW : winnersP 12 m vs = [ix (pairsRank m vs) 0] := by unfold winnersP; simp
  rw [HW]
  have sl := pairsRank_len F.out
  have K2 := Lib.hid (fun W hW => implPairsRanking m A vs.length c vs W hW hn hx hp)
  generalize pairsRank m vs = xs at *
  clear hx F hp HW
  go_enter Tryz.func27, Tryz.ntmps27
  go_wp2_with fail
  (with_reducible refine (K.out).mono ?_)
  rintro e w1 ⟨rfl, b1⟩
  replace x0 := cell_carry b1 x0
  replace x1 := cell_carry b1 x1
  replace h := h.below b1
  replace hB := hB.trans (b1.mono hB.size)
  clear b1
  clear K hw0
  go_wp2_with fail
  (with_reducible refine (K2.out _ h).mono ?_)
  rintro e w2 ⟨A2, c2, rfl, o2, b2⟩
  replace hB := hB.trans (b2.mono hB.size)
  clear b2 K2
  obtain ⟨bb, oo, rfl, _, hc⟩ := o2.at_.at_ (k := 0) sl
  have d0 := hc 0 sl
  rw [Nat.add_zero] at d0
  clear hc
  obtain ⟨y, hy⟩ : ∃ y, ix xs 0 = y := ⟨_, rfl⟩
  rw [hy] at d0
  have HY := Lib.hid hy
  clear hy
  have hz := hB.size
  have o9 := (OwnI.lit1 w2 y).mono hz (show w2.heap.size + 1 ≤ (w2.alloc (.cells #[.int .i64 (y)] 3)).heap.size by simp)
  have b9 := hB.trans ((alloc_below w2 (.cells #[.int .i64 (y)] 3)).mono hz)
  go_wp2
  go_ret
  exact ⟨_, _, rfl, by rw [HY.out]; exact o9, b9⟩
set_option maxRecDepth 100000 in
set_option maxHeartbeats 1000000 in
theorem implWinners_13 (m : Int) (A : Option Addr) (n c : Nat) (vs : List Vt) (w : World) (h : VotesAt w A n vs) (hn : n ≤ 1048576) (hx : ∀ v ∈ vs, v.r.length ≤ 1048576) (hp : profOk m vs = true) :
    Calls Tryz.prog 27 #[.int .i64 13, .agg #[.int .i64 m, .slice A n c]] w fun e w' => ∃ A' c', e = .returned (.slice A' (winnersP 13 m vs).length c') ∧ OwnI w' w.heap.size w'.heap.size (.slice A' (winnersP 13 m vs).length c') (winnersP 13 m vs) ∧ Below w.heap.size w w' := by
  obtain rfl := h.len
  have hB := alloc_below w (.cells #[.int .i64 m, .slice A vs.length c] 24)
  obtain ⟨x0, x1⟩ := PBox.new w m A vs.length c 24 rfl
  replace h := h.below hB
  generalize hw0 : w.alloc (.cells #[.int .i64 m, .slice A vs.length c] 24) = w0 at *
  have K := Lib.hid (implProfileOk m A vs.length c vs _ h hn hx)
  rw [hp] at K
  have F := Lib.hid (pf_of hp)
  have HW : winnersP 13 m vs = [ix (kemenyR m vs) 0] := by unfold winnersP; simp
  rw [HW]
  have sl := kemenyR_len F.out
  have K2 := Lib.hid (fun W hW => implKemeny m A vs.length c vs W hW hn hx hp)
  generalize kemenyR m vs = xs at *
  clear hx F hp HW
  go_enter Tryz.func27, Tryz.ntmps27
  go_wp2_with fail
  (with_reducible refine (K.out).mono ?_)
  rintro e w1 ⟨rfl, b1⟩
  replace x0 := cell_carry b1 x0
  replace x1 := cell_carry b1 x1
  replace h := h.below b1
  replace hB := hB.trans (b1.mono hB.size)
  clear b1
  clear K hw0
  go_wp2_with fail
  (with_reducible refine (K2.out _ h).mono ?_)
  rintro e w2 ⟨A2, c2, rfl, i2, _, b2⟩
  replace hB := hB.trans (b2.mono hB.size)
  clear b2 K2
  obtain ⟨bb, oo, rfl, _, hc⟩ := i2.at_ (k := 0) sl
  have d0 := hc 0 sl
  rw [Nat.add_zero] at d0
  clear hc
  obtain ⟨y, hy⟩ : ∃ y, ix xs 0 = y := ⟨_, rfl⟩
  rw [hy] at d0
  have HY := Lib.hid hy
  clear hy
  have hz := hB.size
  have o9 := (OwnI.lit1 w2 y).mono hz (show w2.heap.size + 1 ≤ (w2.alloc (.cells #[.int .i64 (y)] 3)).heap.size by simp)
  have b9 := hB.trans ((alloc_below w2 (.cells #[.int .i64 (y)] 3)).mono hz)
  go_wp2
  go_ret
  exact ⟨_, _, rfl, by rw [HY.out]; exact o9, b9⟩
set_option maxRecDepth 100000 in
set_option maxHeartbeats 1000000 in
theorem implWinners_no (rule : Int) (hr : rule < 1 ∨ 13 < rule) (m : Int) (A : Option Addr) (n c : Nat) (vs : List Vt) (w : World) (h : VotesAt w A n vs) (hn : n ≤ 1048576) (hx : ∀ v ∈ vs, v.r.length ≤ 1048576) (hp : profOk m vs = true) :
    Calls Tryz.prog 27 #[.int .i64 rule, .agg #[.int .i64 m, .slice A n c]] w fun e w' => ∃ A' c', e = .returned (.slice A' (winnersP rule m vs).length c') ∧ OwnI w' w.heap.size w'.heap.size (.slice A' (winnersP rule m vs).length c') (winnersP rule m vs) ∧ Below w.heap.size w w' := by
  obtain rfl := h.len
  have hB := alloc_below w (.cells #[.int .i64 m, .slice A vs.length c] 24)
  obtain ⟨x0, x1⟩ := PBox.new w m A vs.length c 24 rfl
  replace h := h.below hB
  generalize hw0 : w.alloc (.cells #[.int .i64 m, .slice A vs.length c] 24) = w0 at *
  have K := Lib.hid (implProfileOk m A vs.length c vs _ h hn hx)
  rw [hp] at K
  have HW : winnersP rule m vs = [] := by unfold winnersP; rw [if_neg (by omega)]; rw [if_neg (by omega)]; rw [if_neg (by omega)]; rw [if_neg (by omega)]; rw [if_neg (by omega)]; rw [if_neg (by omega)]; rw [if_neg (by omega)]; rw [if_neg (by omega)]; rw [if_neg (by omega)]; rw [if_neg (by omega)]; rw [if_neg (by omega)]; rw [if_neg (by omega)]; rw [if_neg (by omega)]
  rw [HW]
  clear hx hp
  have e1 : (rule == 1) = false := by rw [beq_eq_false_iff_ne]; omega
  have e2 : (rule == 2) = false := by rw [beq_eq_false_iff_ne]; omega
  have e3 : (rule == 3) = false := by rw [beq_eq_false_iff_ne]; omega
  have e4 : (rule == 4) = false := by rw [beq_eq_false_iff_ne]; omega
  have e5 : (rule == 5) = false := by rw [beq_eq_false_iff_ne]; omega
  have e6 : (rule == 6) = false := by rw [beq_eq_false_iff_ne]; omega
  have e7 : (rule == 7) = false := by rw [beq_eq_false_iff_ne]; omega
  have e8 : (rule == 8) = false := by rw [beq_eq_false_iff_ne]; omega
  have e9 : (rule == 9) = false := by rw [beq_eq_false_iff_ne]; omega
  have e10 : (rule == 10) = false := by rw [beq_eq_false_iff_ne]; omega
  have e11 : (rule == 11) = false := by rw [beq_eq_false_iff_ne]; omega
  have e12 : (rule == 12) = false := by rw [beq_eq_false_iff_ne]; omega
  have e13 : (rule == 13) = false := by rw [beq_eq_false_iff_ne]; omega
  clear HW hr
  go_enter Tryz.func27, Tryz.ntmps27
  go_wp2_with fail
  (with_reducible refine (K.out).mono ?_)
  rintro e w1 ⟨rfl, b1⟩
  replace x0 := cell_carry b1 x0
  replace x1 := cell_carry b1 x1
  replace h := h.below b1
  replace hB := hB.trans (b1.mono hB.size)
  clear b1
  clear K hw0
  go_wp2
  go_ret
  exact ⟨_, _, rfl, OwnI.nil _ _ _, hB⟩
theorem implWinnersBy (rule m : Int) (A : Option Addr) (n c : Nat) (vs : List Vt) (w : World) (h : VotesAt w A n vs) (hn : n ≤ 1048576) (hx : ∀ v ∈ vs, v.r.length ≤ 1048576) :
    Calls Tryz.prog 27 #[.int .i64 rule, .agg #[.int .i64 m, .slice A n c]] w fun e w' => ∃ A' c', e = .returned (.slice A' (winnersR rule m vs).length c') ∧ OwnI w' w.heap.size w'.heap.size (.slice A' (winnersR rule m vs).length c') (winnersR rule m vs) ∧ Below w.heap.size w w' := by
  cases hp : profOk m vs
  · rw [winnersR_no hp]
    obtain rfl := h.len
    have hB := alloc_below w (.cells #[.int .i64 m, .slice A vs.length c] 24)
    obtain ⟨x0, x1⟩ := PBox.new w m A vs.length c 24 rfl
    replace h := h.below hB
    generalize hw0 : w.alloc (.cells #[.int .i64 m, .slice A vs.length c] 24) = w0 at *
    have K := Lib.hid (implProfileOk m A vs.length c vs _ h hn hx)
    rw [hp] at K
    clear hx hp
    go_enter Tryz.func27, Tryz.ntmps27
    go_wp2_with fail
    (with_reducible refine (K.out).mono ?_)
    rintro e w1 ⟨rfl, b1⟩
    replace hB := hB.trans (b1.mono hB.size)
    clear b1
    go_wp2
    go_ret
    exact ⟨_, _, rfl, OwnI.nil _ _ _, hB⟩
  · rw [winnersR_yes hp]
    by_cases hr : rule < 1 ∨ 13 < rule
    · exact implWinners_no rule hr m A n c vs w h hn hx hp
    · obtain rfl | rfl | rfl | rfl | rfl | rfl | rfl | rfl | rfl | rfl | rfl | rfl | rfl : rule = 1 ∨ rule = 2 ∨ rule = 3 ∨ rule = 4 ∨ rule = 5 ∨ rule = 6 ∨ rule = 7 ∨ rule = 8 ∨ rule = 9 ∨ rule = 10 ∨ rule = 11 ∨ rule = 12 ∨ rule = 13 := by omega
      · exact implWinners_1 m A n c vs w h hn hx hp
      · exact implWinners_2 m A n c vs w h hn hx hp
      · exact implWinners_3 m A n c vs w h hn hx hp
      · exact implWinners_4 m A n c vs w h hn hx hp
      · exact implWinners_5 m A n c vs w h hn hx hp
      · exact implWinners_6 m A n c vs w h hn hx hp
      · exact implWinners_7 m A n c vs w h hn hx hp
      · exact implWinners_8 m A n c vs w h hn hx hp
      · exact implWinners_9 m A n c vs w h hn hx hp
      · exact implWinners_10 m A n c vs w h hn hx hp
      · exact implWinners_11 m A n c vs w h hn hx hp
      · exact implWinners_12 m A n c vs w h hn hx hp
      · exact implWinners_13 m A n c vs w h hn hx hp
noncomputable def winnerR (rule m : Int) (vs : List Vt) : Int := if (winnersR rule m vs).length = 0 then -1 else ix (winnersR rule m vs) 0
theorem implWinnerBy (rule m : Int) (A : Option Addr) (n c : Nat) (vs : List Vt) (w : World) (h : VotesAt w A n vs) (hn : n ≤ 1048576) (hx : ∀ v ∈ vs, v.r.length ≤ 1048576) :
    Calls Tryz.prog 7 #[.int .i64 rule, .agg #[.int .i64 m, .slice A n c]] w fun e w' => e = .returned (.int .i64 (winnerR rule m vs)) ∧ Below w.heap.size w w' := by
  obtain rfl := h.len
  have hB := alloc_below w (.cells #[.int .i64 m, .slice A vs.length c] 24)
  obtain ⟨x0, x1⟩ := PBox.new w m A vs.length c 24 rfl
  replace h := h.below hB
  generalize hw0 : w.alloc (.cells #[.int .i64 m, .slice A vs.length c] 24) = w0 at *
  have K := Lib.hid (implWinnersBy rule m A vs.length c vs _ h hn hx)
  unfold winnerR
  generalize winnersR rule m vs = xs at *
  clear hx
  by_cases h0 : xs.length = 0
  · rw [if_pos h0]
    have e0 : ((xs.length : Int) == 0) = true := by rw [h0]; rfl
    clear h0
    go_enter Tryz.func7, Tryz.ntmps7
    go_wp2_with fail
    (with_reducible refine K.out.mono ?_)
    rintro e w2 ⟨A2, c2, rfl, o2, b2⟩
    replace hB := hB.trans (b2.mono hB.size)
    clear b2 K o2
    go_wp2
    go_ret
    exact ⟨rfl, hB⟩
  · rw [if_neg h0]
    have e0 : ((xs.length : Int) == 0) = false := by rw [beq_eq_false_iff_ne]; omega
    have e1 : (0 : Int) < (xs.length : Int) := by omega
    go_enter Tryz.func7, Tryz.ntmps7
    go_wp2_with fail
    (with_reducible refine K.out.mono ?_)
    rintro e w2 ⟨A2, c2, rfl, o2, b2⟩
    replace hB := hB.trans (b2.mono hB.size)
    obtain ⟨g2, rfl, _, _⟩ := o2.head (by omega)
    have d0 := o2.cellAt 0 (by omega)
    clear b2 K o2 h0
    go_wp2
    go_ret
    exact ⟨rfl, hB⟩
end Go.Proofs.YtaanppihgldeaaaGreatDoor
