/- Winners by a rule, the reference's side. Printed by gen/swinners.py. -/
import Derived.Test.YtaanppihgldeaaaGreatDoorW26
import Derived.Test.YtaanppihgldeaaaGreatDoorW27
import Derived.Test.YtaanppihgldeaaaGreatDoorW28
import Derived.Test.YtaanppihgldeaaaGreatDoorW29
namespace Go.Proofs.YtaanppihgldeaaaGreatDoor
set_option linter.unusedSimpArgs false
set_option linter.unusedVariables false
set_option linter.unusedVariables false
open Go.RowKit

theorem great_len (xs : List Int) : (greatest xs).length ≤ xs.length := by
  have key : ∀ k, (greatTo xs k).length ≤ k := by
    intro k
    induction k with
    | zero => exact Nat.le_refl _
    | succ k ih => rw [greatTo, List.length_append]; split <;> simp <;> omega
  exact key _
theorem winnersR_len {rule m : Int} {vs : List Vt} : (winnersR rule m vs).length ≤ 5 := by
  cases hp : profOk m vs
  · rw [winnersR_no hp]; exact Nat.zero_le _
  · rw [winnersR_yes hp]
    have F := pf_of hp
    have h5 := F.m5
    have sc : ∀ ws, (greatest (scoresR m vs ws)).length ≤ 5 := fun ws => by
      have h1 := great_len (scoresR m vs ws)
      have h2 := scoresR_len (m := m) (vs := vs) (ws := ws)
      omega
    have h4 := great_len (copelandR m vs)
    have h4b := copelandR_len (m := m) (vs := vs)
    have h6 := great_len (maximinR m vs)
    have h6b := maximinR_len (m := m) (vs := vs)
    have h7 : (schulzeR m vs).length ≤ 5 := by
      unfold schulzeR thoseR
      rw [if_pos hp]
      have := thoseTo_len m.toNat (schulF (strength vs m.toNat)) m.toNat
      unfold thoseP
      omega
    unfold winnersP
    have ite_le : ∀ (p : Prop) [Decidable p] (a b : List Int), a.length ≤ 5 → b.length ≤ 5 → (if p then a else b).length ≤ 5 := fun p _ a b ha hb => by split <;> assumption
    repeat (refine ite_le _ _ _ (by first | exact sc _ | omega | simp) ?_)
    simp
theorem ints_one {w : World} {A : Option Addr} {n : Nat} {xs : List Int} (h : IntsAt w A n xs) (h0 : 0 < n) : IntsAt w A 1 [ix xs 0] := by
  obtain ⟨b, o, e, hc⟩ := h.2 h0
  refine ⟨rfl, fun _ => ⟨b, o, e, fun j hj => ?_⟩⟩
  obtain rfl : j = 0 := by omega
  exact hc 0 h0
theorem own_cap {w : World} {lo hi n c : Nat} {A : Option Addr} {xs : List Int} (h : OwnI w lo hi (.slice A n c) xs) : n ≤ c := h.ints.2.2.1
set_option maxRecDepth 100000 in
set_option maxHeartbeats 1000000 in
theorem specWin_1 (m : Int) (A : Option Addr) (n c : Nat) (vs : List Vt) (w : World) (h : VotesAt w A n vs) (hn : n ≤ 1048576) (hx : ∀ v ∈ vs, v.r.length ≤ 1048576) (hp : profOk m vs = true) :
    Calls Tryz.prog 71 #[.int .i64 1, .agg #[.int .i64 m, .slice A n c]] w fun e w' => ∃ A' c', e = .returned (.slice A' (winnersP 1 m vs).length c') ∧ IntsAt w' A' (winnersP 1 m vs).length (winnersP 1 m vs) ∧ Below w.heap.size w w' := by
  obtain rfl := h.len
  have hB := alloc_below w (.cells #[.int .i64 m, .slice A vs.length c] 24)
  obtain ⟨x0, x1⟩ := PBox.new w m A vs.length c 24 rfl
  replace h := h.below hB
  generalize hw0 : w.alloc (.cells #[.int .i64 m, .slice A vs.length c] 24) = w0 at *
  have F := Lib.hid (pf_of hp)
  have HW : winnersP 1 m vs = greatest (scoresR m vs (plurW m)) := by unfold winnersP; simp
  rw [HW]
  have KW := Lib.hid (fun W => specPlurality m W)
  have wl : (plurW m).length ≤ 5 := wts_len
  have KS := Lib.hid (fun B d W hW q => specScoreWinners m A vs.length c vs B (plurW m).length d (plurW m) W hW hn hx q (by omega))
  clear hx F hp HW
  obtain ⟨T, hT⟩ : ∃ T, greatest (scoresR m vs (plurW m)) = T := ⟨_, rfl⟩
  rw [hT] at KS ⊢
  generalize plurW m = ws at *
  clear hT
  have hbw := (Below.refl w0.heap.size w0).drew
  go_enter Tryz.func71, Tryz.ntmps71
  go_upto_region 3 with fail
  go_region_held3 (fun w' => w'.cell? ⟨w.heap.size, 0, none⟩ = some (.int .i64 m) ∧ w'.cell? ⟨w.heap.size, 1, none⟩ = some (.slice A vs.length c)) ((refine ⟨?_, ?_⟩ <;> (first | assumption | go_keep)))
    (first
      | (go_at_call 129; (with_reducible refine (KW.out _).mono ?_); rintro e w2 ⟨A2, c2, rfl, o2, b2⟩; have x0 := cell_carry b2 x0; have x1 := cell_carry b2 x1; have hbw := hbw.trans (b2.mono hbw.size))
      | (go_at_call 128; have KK := KS.out _ c2 _ (h.below hbw) o2.at_; (with_reducible refine KK.mono ?_); rintro e w3 ⟨A3, c3, rfl, o3, b3⟩; have x0 := cell_carry b3 x0; have x1 := cell_carry b3 x1; have hz3 := hbw.size; have hbw := hbw.trans (b3.mono hbw.size)))
  go_wp2
  go_ret
  exact ⟨_, _, rfl, o3.at_, hB.trans (hbw.mono hB.size)⟩
set_option maxRecDepth 100000 in
set_option maxHeartbeats 1000000 in
theorem specWin_2 (m : Int) (A : Option Addr) (n c : Nat) (vs : List Vt) (w : World) (h : VotesAt w A n vs) (hn : n ≤ 1048576) (hx : ∀ v ∈ vs, v.r.length ≤ 1048576) (hp : profOk m vs = true) :
    Calls Tryz.prog 71 #[.int .i64 2, .agg #[.int .i64 m, .slice A n c]] w fun e w' => ∃ A' c', e = .returned (.slice A' (winnersP 2 m vs).length c') ∧ IntsAt w' A' (winnersP 2 m vs).length (winnersP 2 m vs) ∧ Below w.heap.size w w' := by
  obtain rfl := h.len
  have hB := alloc_below w (.cells #[.int .i64 m, .slice A vs.length c] 24)
  obtain ⟨x0, x1⟩ := PBox.new w m A vs.length c 24 rfl
  replace h := h.below hB
  generalize hw0 : w.alloc (.cells #[.int .i64 m, .slice A vs.length c] 24) = w0 at *
  have F := Lib.hid (pf_of hp)
  have HW : winnersP 2 m vs = greatest (scoresR m vs (bordW m)) := by unfold winnersP; simp
  rw [HW]
  have KW := Lib.hid (fun W => specBorda m W)
  have wl : (bordW m).length ≤ 5 := wts_len
  have KS := Lib.hid (fun B d W hW q => specScoreWinners m A vs.length c vs B (bordW m).length d (bordW m) W hW hn hx q (by omega))
  clear hx F hp HW
  obtain ⟨T, hT⟩ : ∃ T, greatest (scoresR m vs (bordW m)) = T := ⟨_, rfl⟩
  rw [hT] at KS ⊢
  generalize bordW m = ws at *
  clear hT
  have hbw := (Below.refl w0.heap.size w0).drew
  go_enter Tryz.func71, Tryz.ntmps71
  go_upto_region 5 with fail
  go_region_held3 (fun w' => w'.cell? ⟨w.heap.size, 0, none⟩ = some (.int .i64 m) ∧ w'.cell? ⟨w.heap.size, 1, none⟩ = some (.slice A vs.length c)) ((refine ⟨?_, ?_⟩ <;> (first | assumption | go_keep)))
    (first
      | (go_at_call 130; (with_reducible refine (KW.out _).mono ?_); rintro e w2 ⟨A2, c2, rfl, o2, b2⟩; have x0 := cell_carry b2 x0; have x1 := cell_carry b2 x1; have hbw := hbw.trans (b2.mono hbw.size))
      | (go_at_call 128; have KK := KS.out _ c2 _ (h.below hbw) o2.at_; (with_reducible refine KK.mono ?_); rintro e w3 ⟨A3, c3, rfl, o3, b3⟩; have x0 := cell_carry b3 x0; have x1 := cell_carry b3 x1; have hz3 := hbw.size; have hbw := hbw.trans (b3.mono hbw.size)))
  go_wp2
  go_ret
  exact ⟨_, _, rfl, o3.at_, hB.trans (hbw.mono hB.size)⟩
set_option maxRecDepth 100000 in
set_option maxHeartbeats 1000000 in
theorem specWin_3 (m : Int) (A : Option Addr) (n c : Nat) (vs : List Vt) (w : World) (h : VotesAt w A n vs) (hn : n ≤ 1048576) (hx : ∀ v ∈ vs, v.r.length ≤ 1048576) (hp : profOk m vs = true) :
    Calls Tryz.prog 71 #[.int .i64 3, .agg #[.int .i64 m, .slice A n c]] w fun e w' => ∃ A' c', e = .returned (.slice A' (winnersP 3 m vs).length c') ∧ IntsAt w' A' (winnersP 3 m vs).length (winnersP 3 m vs) ∧ Below w.heap.size w w' := by
  obtain rfl := h.len
  have hB := alloc_below w (.cells #[.int .i64 m, .slice A vs.length c] 24)
  obtain ⟨x0, x1⟩ := PBox.new w m A vs.length c 24 rfl
  replace h := h.below hB
  generalize hw0 : w.alloc (.cells #[.int .i64 m, .slice A vs.length c] 24) = w0 at *
  have F := Lib.hid (pf_of hp)
  have HW : winnersP 3 m vs = greatest (scoresR m vs (vetoW m)) := by unfold winnersP; simp
  rw [HW]
  have KW := Lib.hid (fun W => specVeto m W)
  have wl : (vetoW m).length ≤ 5 := wts_len
  have KS := Lib.hid (fun B d W hW q => specScoreWinners m A vs.length c vs B (vetoW m).length d (vetoW m) W hW hn hx q (by omega))
  clear hx F hp HW
  obtain ⟨T, hT⟩ : ∃ T, greatest (scoresR m vs (vetoW m)) = T := ⟨_, rfl⟩
  rw [hT] at KS ⊢
  generalize vetoW m = ws at *
  clear hT
  have hbw := (Below.refl w0.heap.size w0).drew
  go_enter Tryz.func71, Tryz.ntmps71
  go_upto_region 7 with fail
  go_region_held3 (fun w' => w'.cell? ⟨w.heap.size, 0, none⟩ = some (.int .i64 m) ∧ w'.cell? ⟨w.heap.size, 1, none⟩ = some (.slice A vs.length c)) ((refine ⟨?_, ?_⟩ <;> (first | assumption | go_keep)))
    (first
      | (go_at_call 131; (with_reducible refine (KW.out _).mono ?_); rintro e w2 ⟨A2, c2, rfl, o2, b2⟩; have x0 := cell_carry b2 x0; have x1 := cell_carry b2 x1; have hbw := hbw.trans (b2.mono hbw.size))
      | (go_at_call 128; have KK := KS.out _ c2 _ (h.below hbw) o2.at_; (with_reducible refine KK.mono ?_); rintro e w3 ⟨A3, c3, rfl, o3, b3⟩; have x0 := cell_carry b3 x0; have x1 := cell_carry b3 x1; have hz3 := hbw.size; have hbw := hbw.trans (b3.mono hbw.size)))
  go_wp2
  go_ret
  exact ⟨_, _, rfl, o3.at_, hB.trans (hbw.mono hB.size)⟩
set_option maxRecDepth 100000 in
set_option maxHeartbeats 1000000 in
theorem specWin_4 (m : Int) (A : Option Addr) (n c : Nat) (vs : List Vt) (w : World) (h : VotesAt w A n vs) (hn : n ≤ 1048576) (hx : ∀ v ∈ vs, v.r.length ≤ 1048576) (hp : profOk m vs = true) :
    Calls Tryz.prog 71 #[.int .i64 4, .agg #[.int .i64 m, .slice A n c]] w fun e w' => ∃ A' c', e = .returned (.slice A' (winnersP 4 m vs).length c') ∧ IntsAt w' A' (winnersP 4 m vs).length (winnersP 4 m vs) ∧ Below w.heap.size w w' := by
  obtain rfl := h.len
  have hB := alloc_below w (.cells #[.int .i64 m, .slice A vs.length c] 24)
  obtain ⟨x0, x1⟩ := PBox.new w m A vs.length c 24 rfl
  replace h := h.below hB
  generalize hw0 : w.alloc (.cells #[.int .i64 m, .slice A vs.length c] 24) = w0 at *
  have F := Lib.hid (pf_of hp)
  have HW : winnersP 4 m vs = greatest (copelandR m vs) := by unfold winnersP; simp
  rw [HW]
  have sl := copelandR_len (m := m) (vs := vs)
  have K2 := Lib.hid (fun W hW => specCopeland m A vs.length c vs W hW hn hx)
  generalize copelandR m vs = xs at *
  clear hx F hp HW
  have K3 := K2.out _ h
  go_enter Tryz.func71, Tryz.ntmps71
  go_wp2_with fail
  (with_reducible refine K3.mono ?_)
  rintro e w2 ⟨A2, c2, rfl, o2, b2⟩
  replace hB := hB.trans (b2.mono hB.size)
  clear b2 K2
  go_wp2_with fail
  (with_reducible refine (specBest A2 _ c2 xs _ o2.at_ (by omega)).mono ?_)
  rintro e w3 ⟨A3, c3, rfl, o3, b3⟩
  go_wp2
  go_ret
  exact ⟨_, _, rfl, o3.at_, hB.trans (b3.mono hB.size)⟩
set_option maxRecDepth 100000 in
set_option maxHeartbeats 1000000 in
theorem specWin_5 (m : Int) (A : Option Addr) (n c : Nat) (vs : List Vt) (w : World) (h : VotesAt w A n vs) (hn : n ≤ 1048576) (hx : ∀ v ∈ vs, v.r.length ≤ 1048576) (hp : profOk m vs = true) :
    Calls Tryz.prog 71 #[.int .i64 5, .agg #[.int .i64 m, .slice A n c]] w fun e w' => ∃ A' c', e = .returned (.slice A' (winnersP 5 m vs).length c') ∧ IntsAt w' A' (winnersP 5 m vs).length (winnersP 5 m vs) ∧ Below w.heap.size w w' := by
  obtain rfl := h.len
  have hB := alloc_below w (.cells #[.int .i64 m, .slice A vs.length c] 24)
  obtain ⟨x0, x1⟩ := PBox.new w m A vs.length c 24 rfl
  replace h := h.below hB
  generalize hw0 : w.alloc (.cells #[.int .i64 m, .slice A vs.length c] 24) = w0 at *
  have F := Lib.hid (pf_of hp)
  have HW : winnersP 5 m vs = greatest (maximinR m vs) := by unfold winnersP; simp
  rw [HW]
  have sl := maximinR_len (m := m) (vs := vs)
  have K2 := Lib.hid (fun W hW => specMaximin m A vs.length c vs W hW hn hx)
  generalize maximinR m vs = xs at *
  clear hx F hp HW
  have K3 := K2.out _ h
  go_enter Tryz.func71, Tryz.ntmps71
  go_wp2_with fail
  (with_reducible refine K3.mono ?_)
  rintro e w2 ⟨A2, c2, rfl, o2, b2⟩
  replace hB := hB.trans (b2.mono hB.size)
  clear b2 K2
  go_wp2_with fail
  (with_reducible refine (specBest A2 _ c2 xs _ o2.at_ (by omega)).mono ?_)
  rintro e w3 ⟨A3, c3, rfl, o3, b3⟩
  go_wp2
  go_ret
  exact ⟨_, _, rfl, o3.at_, hB.trans (b3.mono hB.size)⟩
set_option maxRecDepth 100000 in
set_option maxHeartbeats 1000000 in
theorem specWin_6 (m : Int) (A : Option Addr) (n c : Nat) (vs : List Vt) (w : World) (h : VotesAt w A n vs) (hn : n ≤ 1048576) (hx : ∀ v ∈ vs, v.r.length ≤ 1048576) (hp : profOk m vs = true) :
    Calls Tryz.prog 71 #[.int .i64 6, .agg #[.int .i64 m, .slice A n c]] w fun e w' => ∃ A' c', e = .returned (.slice A' (winnersP 6 m vs).length c') ∧ IntsAt w' A' (winnersP 6 m vs).length (winnersP 6 m vs) ∧ Below w.heap.size w w' := by
  obtain rfl := h.len
  have hB := alloc_below w (.cells #[.int .i64 m, .slice A vs.length c] 24)
  obtain ⟨x0, x1⟩ := PBox.new w m A vs.length c 24 rfl
  replace h := h.below hB
  generalize hw0 : w.alloc (.cells #[.int .i64 m, .slice A vs.length c] 24) = w0 at *
  have F := Lib.hid (pf_of hp)
  have HW : winnersP 6 m vs = [runoffW m vs] := by unfold winnersP; simp
  rw [HW]
  have K2 := Lib.hid (specRunoff m A vs.length c vs _ h hn hx)
  generalize runoffW m vs = y at *
  clear hx F hp HW
  go_enter Tryz.func71, Tryz.ntmps71
  go_wp2_with fail
  (with_reducible refine K2.out.mono ?_)
  rintro e w2 ⟨rfl, b2⟩
  replace hB := hB.trans (b2.mono hB.size)
  clear b2 K2
  have o9 := (OwnI.lit1 w2 y).at_
  have b9 := hB.trans ((alloc_below w2 (.cells #[.int .i64 y] 3)).mono hB.size)
  go_wp2
  go_ret
  exact ⟨_, _, rfl, o9, b9⟩
set_option maxRecDepth 100000 in
set_option maxHeartbeats 1000000 in
theorem specWin_10 (m : Int) (A : Option Addr) (n c : Nat) (vs : List Vt) (w : World) (h : VotesAt w A n vs) (hn : n ≤ 1048576) (hx : ∀ v ∈ vs, v.r.length ≤ 1048576) (hp : profOk m vs = true) :
    Calls Tryz.prog 71 #[.int .i64 10, .agg #[.int .i64 m, .slice A n c]] w fun e w' => ∃ A' c', e = .returned (.slice A' (winnersP 10 m vs).length c') ∧ IntsAt w' A' (winnersP 10 m vs).length (winnersP 10 m vs) ∧ Below w.heap.size w w' := by
  obtain rfl := h.len
  have hB := alloc_below w (.cells #[.int .i64 m, .slice A vs.length c] 24)
  obtain ⟨x0, x1⟩ := PBox.new w m A vs.length c 24 rfl
  replace h := h.below hB
  generalize hw0 : w.alloc (.cells #[.int .i64 m, .slice A vs.length c] 24) = w0 at *
  have F := Lib.hid (pf_of hp)
  have HW : winnersP 10 m vs = [bucklinW m vs] := by unfold winnersP; simp
  rw [HW]
  have K2 := Lib.hid (specBucklin m A vs.length c vs _ h hn hx)
  generalize bucklinW m vs = y at *
  clear hx F hp HW
  go_enter Tryz.func71, Tryz.ntmps71
  go_wp2_with fail
  (with_reducible refine K2.out.mono ?_)
  rintro e w2 ⟨rfl, b2⟩
  replace hB := hB.trans (b2.mono hB.size)
  clear b2 K2
  have o9 := (OwnI.lit1 w2 y).at_
  have b9 := hB.trans ((alloc_below w2 (.cells #[.int .i64 y] 3)).mono hB.size)
  go_wp2
  go_ret
  exact ⟨_, _, rfl, o9, b9⟩
set_option maxRecDepth 100000 in
set_option maxHeartbeats 1000000 in
theorem specWin_7 (m : Int) (A : Option Addr) (n c : Nat) (vs : List Vt) (w : World) (h : VotesAt w A n vs) (hn : n ≤ 1048576) (hx : ∀ v ∈ vs, v.r.length ≤ 1048576) (hp : profOk m vs = true) :
    Calls Tryz.prog 71 #[.int .i64 7, .agg #[.int .i64 m, .slice A n c]] w fun e w' => ∃ A' c', e = .returned (.slice A' (winnersP 7 m vs).length c') ∧ IntsAt w' A' (winnersP 7 m vs).length (winnersP 7 m vs) ∧ Below w.heap.size w w' := by
  obtain rfl := h.len
  have hB := alloc_below w (.cells #[.int .i64 m, .slice A vs.length c] 24)
  obtain ⟨x0, x1⟩ := PBox.new w m A vs.length c 24 rfl
  replace h := h.below hB
  generalize hw0 : w.alloc (.cells #[.int .i64 m, .slice A vs.length c] 24) = w0 at *
  have F := Lib.hid (pf_of hp)
  have HW : winnersP 7 m vs = [lastI (elimR (instF vs) m vs)] := by unfold winnersP; simp
  rw [HW]
  have sl := elimR_len (wf := instF vs) (m := m) (vs := vs)
  have K2 := Lib.hid (specInstant m A vs.length c vs _ h hp)
  generalize elimR (instF vs) m vs = xs at *
  clear hx F hp HW
  go_enter Tryz.func71, Tryz.ntmps71
  go_wp2_with fail
  (with_reducible refine K2.out.mono ?_)
  rintro e w2 ⟨A2, c2, rfl, o2, b2⟩
  replace hB := hB.trans (b2.mono hB.size)
  clear b2 K2
  have KL := Lib.hid (specLastOf A2 _ c2 xs _ o2.at_ (by omega))
  obtain ⟨y, hy⟩ : ∃ y, lastI xs = y := ⟨_, rfl⟩
  rw [hy] at KL
  have HY := Lib.hid hy
  clear hy
  go_wp2_with fail
  (with_reducible refine KL.out.mono ?_)
  rintro e w3 ⟨rfl, rfl⟩
  have o9 := (OwnI.lit1 w2 y).at_
  have b9 := hB.trans ((alloc_below w2 (.cells #[.int .i64 y] 3)).mono hB.size)
  clear o2 KL
  go_wp2
  go_ret
  exact ⟨_, _, rfl, by rw [HY.out]; exact o9, b9⟩
set_option maxRecDepth 100000 in
set_option maxHeartbeats 1000000 in
theorem specWin_8 (m : Int) (A : Option Addr) (n c : Nat) (vs : List Vt) (w : World) (h : VotesAt w A n vs) (hn : n ≤ 1048576) (hx : ∀ v ∈ vs, v.r.length ≤ 1048576) (hp : profOk m vs = true) :
    Calls Tryz.prog 71 #[.int .i64 8, .agg #[.int .i64 m, .slice A n c]] w fun e w' => ∃ A' c', e = .returned (.slice A' (winnersP 8 m vs).length c') ∧ IntsAt w' A' (winnersP 8 m vs).length (winnersP 8 m vs) ∧ Below w.heap.size w w' := by
  obtain rfl := h.len
  have hB := alloc_below w (.cells #[.int .i64 m, .slice A vs.length c] 24)
  obtain ⟨x0, x1⟩ := PBox.new w m A vs.length c 24 rfl
  replace h := h.below hB
  generalize hw0 : w.alloc (.cells #[.int .i64 m, .slice A vs.length c] 24) = w0 at *
  have F := Lib.hid (pf_of hp)
  have HW : winnersP 8 m vs = [lastI (elimR (coomF vs) m vs)] := by unfold winnersP; simp
  rw [HW]
  have sl := elimR_len (wf := coomF vs) (m := m) (vs := vs)
  have K2 := Lib.hid (specCoombs m A vs.length c vs _ h hp)
  generalize elimR (coomF vs) m vs = xs at *
  clear hx F hp HW
  go_enter Tryz.func71, Tryz.ntmps71
  go_wp2_with fail
  (with_reducible refine K2.out.mono ?_)
  rintro e w2 ⟨A2, c2, rfl, o2, b2⟩
  replace hB := hB.trans (b2.mono hB.size)
  clear b2 K2
  have KL := Lib.hid (specLastOf A2 _ c2 xs _ o2.at_ (by omega))
  obtain ⟨y, hy⟩ : ∃ y, lastI xs = y := ⟨_, rfl⟩
  rw [hy] at KL
  have HY := Lib.hid hy
  clear hy
  go_wp2_with fail
  (with_reducible refine KL.out.mono ?_)
  rintro e w3 ⟨rfl, rfl⟩
  have o9 := (OwnI.lit1 w2 y).at_
  have b9 := hB.trans ((alloc_below w2 (.cells #[.int .i64 y] 3)).mono hB.size)
  clear o2 KL
  go_wp2
  go_ret
  exact ⟨_, _, rfl, by rw [HY.out]; exact o9, b9⟩
set_option maxRecDepth 100000 in
set_option maxHeartbeats 1000000 in
theorem specWin_9 (m : Int) (A : Option Addr) (n c : Nat) (vs : List Vt) (w : World) (h : VotesAt w A n vs) (hn : n ≤ 1048576) (hx : ∀ v ∈ vs, v.r.length ≤ 1048576) (hp : profOk m vs = true) :
    Calls Tryz.prog 71 #[.int .i64 9, .agg #[.int .i64 m, .slice A n c]] w fun e w' => ∃ A' c', e = .returned (.slice A' (winnersP 9 m vs).length c') ∧ IntsAt w' A' (winnersP 9 m vs).length (winnersP 9 m vs) ∧ Below w.heap.size w w' := by
  obtain rfl := h.len
  have hB := alloc_below w (.cells #[.int .i64 m, .slice A vs.length c] 24)
  obtain ⟨x0, x1⟩ := PBox.new w m A vs.length c 24 rfl
  replace h := h.below hB
  generalize hw0 : w.alloc (.cells #[.int .i64 m, .slice A vs.length c] 24) = w0 at *
  have F := Lib.hid (pf_of hp)
  have HW : winnersP 9 m vs = [lastI (elimR (baldN vs) m vs)] := by unfold winnersP; simp
  rw [HW]
  have sl := elimR_len (wf := baldN vs) (m := m) (vs := vs)
  have K2 := Lib.hid (specBaldwin m A vs.length c vs _ h hp)
  generalize elimR (baldN vs) m vs = xs at *
  clear hx F hp HW
  go_enter Tryz.func71, Tryz.ntmps71
  go_wp2_with fail
  (with_reducible refine K2.out.mono ?_)
  rintro e w2 ⟨A2, c2, rfl, o2, b2⟩
  replace hB := hB.trans (b2.mono hB.size)
  clear b2 K2
  have KL := Lib.hid (specLastOf A2 _ c2 xs _ o2.at_ (by omega))
  obtain ⟨y, hy⟩ : ∃ y, lastI xs = y := ⟨_, rfl⟩
  rw [hy] at KL
  have HY := Lib.hid hy
  clear hy
  go_wp2_with fail
  (with_reducible refine KL.out.mono ?_)
  rintro e w3 ⟨rfl, rfl⟩
  have o9 := (OwnI.lit1 w2 y).at_
  have b9 := hB.trans ((alloc_below w2 (.cells #[.int .i64 y] 3)).mono hB.size)
  clear o2 KL
  go_wp2
  go_ret
  exact ⟨_, _, rfl, by rw [HY.out]; exact o9, b9⟩
set_option maxRecDepth 100000 in
set_option maxHeartbeats 1000000 in
theorem specWin_11 (m : Int) (A : Option Addr) (n c : Nat) (vs : List Vt) (w : World) (h : VotesAt w A n vs) (hn : n ≤ 1048576) (hx : ∀ v ∈ vs, v.r.length ≤ 1048576) (hp : profOk m vs = true) :
    Calls Tryz.prog 71 #[.int .i64 11, .agg #[.int .i64 m, .slice A n c]] w fun e w' => ∃ A' c', e = .returned (.slice A' (winnersP 11 m vs).length c') ∧ IntsAt w' A' (winnersP 11 m vs).length (winnersP 11 m vs) ∧ Below w.heap.size w w' := by
  obtain rfl := h.len
  have hB := alloc_below w (.cells #[.int .i64 m, .slice A vs.length c] 24)
  obtain ⟨x0, x1⟩ := PBox.new w m A vs.length c 24 rfl
  replace h := h.below hB
  generalize hw0 : w.alloc (.cells #[.int .i64 m, .slice A vs.length c] 24) = w0 at *
  have F := Lib.hid (pf_of hp)
  have HW : winnersP 11 m vs = schulzeR m vs := by unfold winnersP; simp
  rw [HW]
  have K2 := Lib.hid (specSchulze m A vs.length c vs _ h hn hx)
  generalize schulzeR m vs = T at *
  clear hx F hp HW
  go_enter Tryz.func71, Tryz.ntmps71
  go_wp2_with fail
  (with_reducible refine K2.out.mono ?_)
  rintro e w2 ⟨A2, c2, rfl, o2, b2⟩
  go_wp2
  go_ret
  exact ⟨_, _, rfl, o2.at_, hB.trans (b2.mono hB.size)⟩
set_option maxRecDepth 100000 in
set_option maxHeartbeats 1000000 in
theorem specWin_12 (m : Int) (A : Option Addr) (n c : Nat) (vs : List Vt) (w : World) (h : VotesAt w A n vs) (hn : n ≤ 1048576) (hx : ∀ v ∈ vs, v.r.length ≤ 1048576) (hp : profOk m vs = true) :
    Calls Tryz.prog 71 #[.int .i64 12, .agg #[.int .i64 m, .slice A n c]] w fun e w' => ∃ A' c', e = .returned (.slice A' (winnersP 12 m vs).length c') ∧ IntsAt w' A' (winnersP 12 m vs).length (winnersP 12 m vs) ∧ Below w.heap.size w w' := by
  obtain rfl := h.len
  have hB := alloc_below w (.cells #[.int .i64 m, .slice A vs.length c] 24)
  obtain ⟨x0, x1⟩ := PBox.new w m A vs.length c 24 rfl
  replace h := h.below hB
  generalize hw0 : w.alloc (.cells #[.int .i64 m, .slice A vs.length c] 24) = w0 at *
  have F := Lib.hid (pf_of hp)
  have HW : winnersP 12 m vs = [ix (pairsRank m vs) 0] := by unfold winnersP; simp
  rw [HW]
  have sl := pairsRank_len F.out
  have K2 := Lib.hid (specPairsRanking m A vs.length c vs _ h hn hx hp)
  generalize pairsRank m vs = xs at *
  clear hx F hp HW
  go_enter Tryz.func71, Tryz.ntmps71
  go_wp2_with fail
  (with_reducible refine K2.out.mono ?_)
  rintro e w2 ⟨A2, c2, rfl, o2, b2⟩
  replace hB := hB.trans (b2.mono hB.size)
  clear b2 K2
  have i2 := o2.at_
  have lc : xs.length ≤ c2 := own_cap o2
  have e1 : IntsAt w2 A2 1 [ix xs 0] := ints_one i2 sl
  have k2 : (1 : Int) ≤ (c2 : Int) := by omega
  have k3 : (1 : Int) ≤ (xs.length : Int) := by omega
  obtain ⟨bb, oo, rfl, _, _⟩ := i2.at_ (k := 0) sl
  clear i2 o2
  go_wp2
  go_ret
  exact ⟨_, _, rfl, e1, hB⟩
set_option maxRecDepth 100000 in
set_option maxHeartbeats 1000000 in
theorem specWin_13 (m : Int) (A : Option Addr) (n c : Nat) (vs : List Vt) (w : World) (h : VotesAt w A n vs) (hn : n ≤ 1048576) (hx : ∀ v ∈ vs, v.r.length ≤ 1048576) (hp : profOk m vs = true) :
    Calls Tryz.prog 71 #[.int .i64 13, .agg #[.int .i64 m, .slice A n c]] w fun e w' => ∃ A' c', e = .returned (.slice A' (winnersP 13 m vs).length c') ∧ IntsAt w' A' (winnersP 13 m vs).length (winnersP 13 m vs) ∧ Below w.heap.size w w' := by
  obtain rfl := h.len
  have hB := alloc_below w (.cells #[.int .i64 m, .slice A vs.length c] 24)
  obtain ⟨x0, x1⟩ := PBox.new w m A vs.length c 24 rfl
  replace h := h.below hB
  generalize hw0 : w.alloc (.cells #[.int .i64 m, .slice A vs.length c] 24) = w0 at *
  have F := Lib.hid (pf_of hp)
  have HW : winnersP 13 m vs = [ix (kemenyR m vs) 0] := by unfold winnersP; simp
  rw [HW]
  have sl := kemenyR_len F.out
  have K2 := Lib.hid (specKemeny m A vs.length c vs _ h hn hx hp)
  generalize kemenyR m vs = xs at *
  clear hx F hp HW
  go_enter Tryz.func71, Tryz.ntmps71
  go_wp2_with fail
  (with_reducible refine K2.out.mono ?_)
  rintro e w2 ⟨A2, c2, rfl, i2, lc, b2⟩
  replace hB := hB.trans (b2.mono hB.size)
  clear b2 K2
  have e1 : IntsAt w2 A2 1 [ix xs 0] := ints_one i2 sl
  have k2 : (1 : Int) ≤ (c2 : Int) := by omega
  have k3 : (1 : Int) ≤ (xs.length : Int) := by omega
  obtain ⟨bb, oo, rfl, _, _⟩ := i2.at_ (k := 0) sl
  clear i2
  go_wp2
  go_ret
  exact ⟨_, _, rfl, e1, hB⟩
set_option maxRecDepth 100000 in
set_option maxHeartbeats 1000000 in
theorem specWin_no (rule : Int) (hr : rule < 1 ∨ 13 < rule) (m : Int) (A : Option Addr) (n c : Nat) (vs : List Vt) (w : World) (h : VotesAt w A n vs) (hn : n ≤ 1048576) (hx : ∀ v ∈ vs, v.r.length ≤ 1048576) (hp : profOk m vs = true) :
    Calls Tryz.prog 71 #[.int .i64 rule, .agg #[.int .i64 m, .slice A n c]] w fun e w' => ∃ A' c', e = .returned (.slice A' (winnersP rule m vs).length c') ∧ IntsAt w' A' (winnersP rule m vs).length (winnersP rule m vs) ∧ Below w.heap.size w w' := by
  obtain rfl := h.len
  have hB := alloc_below w (.cells #[.int .i64 m, .slice A vs.length c] 24)
  obtain ⟨x0, x1⟩ := PBox.new w m A vs.length c 24 rfl
  replace h := h.below hB
  generalize hw0 : w.alloc (.cells #[.int .i64 m, .slice A vs.length c] 24) = w0 at *
  have HW : winnersP rule m vs = [] := by unfold winnersP; rw [if_neg (by omega)]; rw [if_neg (by omega)]; rw [if_neg (by omega)]; rw [if_neg (by omega)]; rw [if_neg (by omega)]; rw [if_neg (by omega)]; rw [if_neg (by omega)]; rw [if_neg (by omega)]; rw [if_neg (by omega)]; rw [if_neg (by omega)]; rw [if_neg (by omega)]; rw [if_neg (by omega)]; rw [if_neg (by omega)]
  rw [HW]
  clear hx hp
  have e1 : (rule == 1) = false := by rw [beq_eq_false_iff_ne]; omega
  have e2 : (rule == 2) = false := by rw [beq_eq_false_iff_ne]; omega
  have e3 : (rule == 3) = false := by rw [beq_eq_false_iff_ne]; omega
  have e4 : (rule == 4) = false := by rw [beq_eq_false_iff_ne]; omega
  have e5 : (rule == 5) = false := by rw [beq_eq_false_iff_ne]; omega
  have e6 : (rule == 6) = false := by rw [beq_eq_false_iff_ne]; omega
  have e7 : (rule == 7) = false := by rw [beq_eq_false_iff_ne]; omega
  have e8 : (rule == 8) = false := by rw [beq_eq_false_iff_ne]; omega
  have e9 : (rule == 9) = false := by rw [beq_eq_false_iff_ne]; omega
  have e10 : (rule == 10) = false := by rw [beq_eq_false_iff_ne]; omega
  have e11 : (rule == 11) = false := by rw [beq_eq_false_iff_ne]; omega
  have e12 : (rule == 12) = false := by rw [beq_eq_false_iff_ne]; omega
  have e13 : (rule == 13) = false := by rw [beq_eq_false_iff_ne]; omega
  clear HW hr
  go_enter Tryz.func71, Tryz.ntmps71
  go_wp2
  go_ret
  exact ⟨_, _, rfl, (OwnI.nil _ 0 0).at_, hB⟩
theorem specWinnersP (rule : Int) (m : Int) (A : Option Addr) (n c : Nat) (vs : List Vt) (w : World) (h : VotesAt w A n vs) (hn : n ≤ 1048576) (hx : ∀ v ∈ vs, v.r.length ≤ 1048576) (hp : profOk m vs = true) :
    Calls Tryz.prog 71 #[.int .i64 rule, .agg #[.int .i64 m, .slice A n c]] w fun e w' => ∃ A' c', e = .returned (.slice A' (winnersP rule m vs).length c') ∧ IntsAt w' A' (winnersP rule m vs).length (winnersP rule m vs) ∧ Below w.heap.size w w' := by
  by_cases hr : rule < 1 ∨ 13 < rule
  · exact specWin_no rule hr m A n c vs w h hn hx hp
  · obtain rfl | rfl | rfl | rfl | rfl | rfl | rfl | rfl | rfl | rfl | rfl | rfl | rfl : rule = 1 ∨ rule = 2 ∨ rule = 3 ∨ rule = 4 ∨ rule = 5 ∨ rule = 6 ∨ rule = 7 ∨ rule = 8 ∨ rule = 9 ∨ rule = 10 ∨ rule = 11 ∨ rule = 12 ∨ rule = 13 := by omega
    · exact specWin_1 m A n c vs w h hn hx hp
    · exact specWin_2 m A n c vs w h hn hx hp
    · exact specWin_3 m A n c vs w h hn hx hp
    · exact specWin_4 m A n c vs w h hn hx hp
    · exact specWin_5 m A n c vs w h hn hx hp
    · exact specWin_6 m A n c vs w h hn hx hp
    · exact specWin_7 m A n c vs w h hn hx hp
    · exact specWin_8 m A n c vs w h hn hx hp
    · exact specWin_9 m A n c vs w h hn hx hp
    · exact specWin_10 m A n c vs w h hn hx hp
    · exact specWin_11 m A n c vs w h hn hx hp
    · exact specWin_12 m A n c vs w h hn hx hp
    · exact specWin_13 m A n c vs w h hn hx hp
set_option maxRecDepth 100000 in
set_option maxHeartbeats 1000000 in
theorem specWinnersBy (rule m : Int) (A : Option Addr) (n c : Nat) (vs : List Vt) (w : World) (h : VotesAt w A n vs) (hn : n ≤ 1048576) (hx : ∀ v ∈ vs, v.r.length ≤ 1048576) :
    Calls Tryz.prog 28 #[.int .i64 rule, .agg #[.int .i64 m, .slice A n c]] w fun e w' => ∃ A' c', e = .returned (.slice A' (winnersR rule m vs).length c') ∧ OwnI w' w.heap.size w'.heap.size (.slice A' (winnersR rule m vs).length c') (winnersR rule m vs) ∧ Below w.heap.size w w' := by
  obtain rfl := h.len
  have hB := alloc_below w (.cells #[.int .i64 m, .slice A vs.length c] 24)
  obtain ⟨x0, x1⟩ := PBox.new w m A vs.length c 24 rfl
  replace h := h.below hB
  generalize hw0 : w.alloc (.cells #[.int .i64 m, .slice A vs.length c] 24) = w0 at *
  have K := Lib.hid (specProfileOk m A vs.length c vs _ h hn hx)
  have WL : (winnersR rule m vs).length ≤ 5 := winnersR_len
  cases hp : profOk m vs
  · rw [winnersR_no hp]
    rw [hp] at K
    clear hx hp
    go_enter Tryz.func28, Tryz.ntmps28
    go_wp2_with fail
    (with_reducible refine (K.out).mono ?_)
    rintro e w1 ⟨rfl, b1⟩
    replace hB := hB.trans (b1.mono hB.size)
    clear b1
    go_wp2
    go_ret
    exact ⟨_, _, rfl, OwnI.nil _ _ _, hB⟩
  · rw [winnersR_yes hp] at WL ⊢
    rw [hp] at K
    have K2 := Lib.hid (fun W hW => specWinnersP rule m A vs.length c vs W hW hn hx hp)
    generalize winnersP rule m vs = xs at *
    clear hx hp
    go_enter Tryz.func28, Tryz.ntmps28
    go_wp2_with fail
    (with_reducible refine (K.out).mono ?_)
    rintro e w1 ⟨rfl, b1⟩
    replace x0 := cell_carry b1 x0
    replace x1 := cell_carry b1 x1
    replace h := h.below b1
    replace hB := hB.trans (b1.mono hB.size)
    clear b1
    have b3 := alloc_below w1 (.cells #[] 3)
    have o3 := OwnI.empty w1 (lo := w1.heap.size) (hi := (w1.alloc (.cells #[] 3)).heap.size) (Nat.le_refl _) (by simp)
    have h3 := h.below b3
    have z1 := hB.size
    replace x0 := cell_carry b3 x0
    replace x1 := cell_carry b3 x1
    have hB3 := hB.trans (b3.mono hB.size)
    generalize hw2 : w1.alloc (.cells #[] 3) = w2 at *
    go_wp2_with fail
    (with_reducible refine (K2.out _ h3).mono ?_)
    rintro e w4 ⟨A4, c4, rfl, i4, b4⟩
    have o4 := (o3.belowW b4).mono (Nat.le_refl _) b4.size
    have hB4 := hB3.trans (b4.mono hB3.size)
    have z3 := b3.size
    have z4 := b4.size
    clear K K2 hw2 hw0 h3 o3 b4 b3 x0 x1
    go_wp2_with (at_builtin; refine wpList_append_ints _ rfl _ _ rfl w1.heap.size w4.heap.size 0 0 _ [] rfl o4 A4 xs.length c4 xs rfl i4 (by omega) (by omega) (by omega) ?_)
    intro A5 c5 w5 o5 on5
    have hB5 := hB4.trans (on5.toBelow z1 hB4.size)
    (try rw [Nat.zero_add] at o5)
    go_wp2
    go_ret
    exact ⟨_, _, rfl, o5.mono z1 (Nat.le_refl _), hB5⟩
theorem specWinnerBy (rule m : Int) (A : Option Addr) (n c : Nat) (vs : List Vt) (w : World) (h : VotesAt w A n vs) (hn : n ≤ 1048576) (hx : ∀ v ∈ vs, v.r.length ≤ 1048576) :
    Calls Tryz.prog 8 #[.int .i64 rule, .agg #[.int .i64 m, .slice A n c]] w fun e w' => e = .returned (.int .i64 (winnerR rule m vs)) ∧ Below w.heap.size w w' := by
  obtain rfl := h.len
  have hB := alloc_below w (.cells #[.int .i64 m, .slice A vs.length c] 24)
  obtain ⟨x0, x1⟩ := PBox.new w m A vs.length c 24 rfl
  replace h := h.below hB
  generalize hw0 : w.alloc (.cells #[.int .i64 m, .slice A vs.length c] 24) = w0 at *
  have K := Lib.hid (specWinnersBy rule m A vs.length c vs _ h hn hx)
  unfold winnerR
  generalize winnersR rule m vs = xs at *
  clear hx
  by_cases h0 : xs.length = 0
  · rw [if_pos h0]
    have e0 : ((xs.length : Int) == 0) = true := by rw [h0]; rfl
    clear h0
    go_enter Tryz.func8, Tryz.ntmps8
    go_wp2_with fail
    (with_reducible refine K.out.mono ?_)
    rintro e w2 ⟨A2, c2, rfl, o2, b2⟩
    replace hB := hB.trans (b2.mono hB.size)
    clear b2 K o2
    go_wp2
    go_ret
    exact ⟨rfl, hB⟩
  · rw [if_neg h0]
    have e0 : ((xs.length : Int) == 0) = false := by rw [beq_eq_false_iff_ne]; omega
    have e1 : (0 : Int) < (xs.length : Int) := by omega
    go_enter Tryz.func8, Tryz.ntmps8
    go_wp2_with fail
    (with_reducible refine K.out.mono ?_)
    rintro e w2 ⟨A2, c2, rfl, o2, b2⟩
    replace hB := hB.trans (b2.mono hB.size)
    obtain ⟨g2, rfl, _, _⟩ := o2.head (by omega)
    have d0 := o2.cellAt 0 (by omega)
    clear b2 K o2 h0
    go_wp2
    go_ret
    exact ⟨rfl, hB⟩
end Go.Proofs.YtaanppihgldeaaaGreatDoor
