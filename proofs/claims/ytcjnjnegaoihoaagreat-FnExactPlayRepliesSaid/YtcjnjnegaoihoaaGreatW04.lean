/- Scores, the program's side: WeightsOk, ScoresOf, greatest, ScoreWinners. A law on regions that draw their order: operations that are quiet in a class of worlds, ahead of a tail whose order is forced (a store behind calls that make memory). No program is walked here. Claims of two parties, compared. -/
import Derived.Test.YtcjnjnegaoihoaaGreatW03
import Derived.StillTailTactics
import Derived.Deep.DeepCutAuto
import Derived.Test.YtcjnjnegaoihoaaGreatW01
import Derived.StillTail
import Derived.Deep.Quiet
import Derived.Test.YtcjnjnegaoihoaaGreatW02
namespace Go.Proofs.YtcjnjnegaoihoaaGreat
set_option linter.unusedSimpArgs false
set_option linter.unusedVariables false
set_option linter.unusedVariables false
open Go.RowKit

theorem ix_setP {xs : List Int} {j i : Nat} {v : Int} (hj : j < xs.length) : ix (xs.set j v) i = if i = j then v else ix xs i := by
  by_cases hi : i < xs.length
  · rw [ix_lt (by simpa using hi), List.getElem_set, ix_lt hi]
    by_cases e : j = i
    · subst e; simp
    · rw [if_neg e, if_neg (fun h => e h.symm)]
  · rw [ix_ge (by simp; omega), ix_ge (by omega), if_neg (by omega)]
/-- no number is greater than the one ahead of it -/
def descB (ws : List Int) : Bool := allN (fun j => decide (ix ws (j + 1) ≤ ix ws j)) (ws.length - 1)
def weightsOk (m : Int) (ws : List Int) : Bool := inB m 1 5 && decide ((ws.length : Int) = m) && ws.all (inB · 0 100) && descB ws
theorem descB_false {ws : List Int} {j : Nat} (h : j + 1 < ws.length) (hl : ix ws j < ix ws (j + 1)) : descB ws = false := allN_false (show j < ws.length - 1 by omega) (decide_eq_false (by omega))
theorem descB_true {ws : List Int} (h : ∀ j, j + 1 < ws.length → ix ws (j + 1) ≤ ix ws j) : descB ws = true := allN_iff.2 fun j hj => decide_eq_true (h j (by omega))
theorem weightsCmp (a b : Int) (W : World) (ha : 0 ≤ a ∧ a ≤ 100) (hb : 0 ≤ b ∧ b ≤ 100) :
    Calls Tryz.prog 172 #[.int .i64 a, .int .i64 b] W fun e W' => e = .returned (.int .i64 (b - a)) ∧ W' = W := by
  go_enter Tryz.func172, Tryz.ntmps172
  go_wp2
  go_ret
  exact ⟨rfl, rfl⟩
set_option maxHeartbeats 400000 in
theorem isSorted_any (A : Option Addr) (n c : Nat) (ws : List Int) (w : World) (h : IntsAt w A n ws) (hn : n ≤ 1048576) (hr : ∀ x ∈ ws, 0 ≤ x ∧ x ≤ 100) :
    Calls Tryz.prog 171 #[.slice A n c, .func (.func 172) #[] #[]] w fun e w' => e = .returned (.bool (descB ws)) ∧ Below w.heap.size w w' := by
  obtain rfl := h.len
  have HR := Lib.hid (fun i (hi : i < ws.length) => hr _ (ix_mem hi))
  clear hr
  go_enter Tryz.func171, Tryz.ntmps171
  go_wp2
  go_loopw [5] (fun i wr => ∃ k : Int, k < ws.length ∧ i = .int .i64 k ∧ -1 ≤ k ∧ (∀ j : Nat, k ≤ j → j + 1 < ws.length → ix ws (j + 1) ≤ ix ws j) ∧ Below w.heap.size w wr) (fun i _ => (intOf i).toNat)
  case atStart => exact ⟨(ws.length : Int) - 1, by omega, rfl, by omega, fun j h1 h2 => by omega, Below.refl _ _⟩
  case round =>
    obtain ⟨k, hk, rfl, hk1, hd, hb⟩ := hrel
    have HD := Lib.hid hd
    clear hd
    by_cases hlt : 0 < k
    · obtain ⟨i, rfl⟩ : ∃ i : Nat, k = (i : Int) + 1 := ⟨(k - 1).toNat, by omega⟩
      obtain ⟨b, o, rfl, _, hc⟩ := (h.below hb).at_ (show 0 < ws.length by omega)
      have d1 := hc (i + 1) (by omega)
      have d2 := hc i (by omega)
      have r1 := HR.out (i + 1) (by omega)
      have r2 := HR.out i (by omega)
      clear hc
      have i1 : ((i : Int) + 1).toNat = i + 1 := by omega
      have ew : IntKind.i64.wrap ((i : Int) + 1 - 1) = (i : Int) := by rw [IntWalk.i64_in _ (by omega)]; omega
      have K1 := Lib.hid (fun n => Calls.quiet_of_same (n := n) (weightsCmp (ix ws (i + 1)) (ix ws i) (wr.drewN n) r1 r2))
      by_cases hle : ix ws (i + 1) ≤ ix ws i
      · generalize hx : ix ws (i + 1) = x at *
        generalize hy : ix ws i = y at *
        have HX := Lib.hid hx
        have HY := Lib.hid hy
        clear hx hy
        have t0 : ((y - x : Int) < 0) = False := by simp; omega
        go_wp2
        go_quiet ((with_reducible exact K1.out _))
        go_wp2
        go_roundw
        case rel => exact ⟨(i : Int), by omega, by go_num, by omega, fun j h1 h2 => by
            by_cases e : j = i
            · subst e; rw [HX.out, HY.out]; exact hle
            · exact HD.out j (by omega) h2, hb.trans (below_of_drewN rfl)⟩
        case measure => simp [intOf]
      · have HF := Lib.hid (descB_false (ws := ws) (j := i) (by omega) (by omega))
        generalize ix ws (i + 1) = x at *
        generalize ix ws i = y at *
        have t0 : y - x < 0 := by omega
        go_wp2
        go_quiet ((with_reducible exact K1.out _))
        go_wp2
        go_ret
        exact ⟨ret_b HF.out.symm, hb.trans (below_of_drewN rfl)⟩
    · have HF := Lib.hid (descB_true (ws := ws) fun j hj => HD.out j (by omega) hj)
      go_wp2
      go_ret
      exact ⟨ret_b HF.out.symm, hb⟩
theorem implWeightsOk (m : Int) (A : Option Addr) (n c : Nat) (ws : List Int) (w : World) (h : IntsAt w A n ws) (hn : n ≤ 1048576) :
    Calls Tryz.prog 144 #[.int .i64 m, .slice A n c] w fun e w' => e = .returned (.bool (weightsOk m ws)) ∧ Below w.heap.size w w' := by
  obtain rfl := h.len
  unfold weightsOk
  cases hm : inB m 1 5
  · go_enter Tryz.func144, Tryz.ntmps144
    go_wp2_with fail
    (with_reducible refine (within_any _ _ _ _).mono ?_)
    rintro e w1 ⟨rfl, rfl⟩
    rw [hm]
    go_wp2_with fail
    go_ret
    exact ⟨by simp, Below.refl _ _⟩
  by_cases hl : (ws.length : Int) = m
  case neg =>
    rw [decide_eq_false hl]
    go_enter Tryz.func144, Tryz.ntmps144
    go_wp2_with fail
    (with_reducible refine (within_any _ _ _ _).mono ?_)
    rintro e w1 ⟨rfl, rfl⟩
    rw [hm]
    go_wp2_with fail
    go_ret
    exact ⟨by simp, Below.refl _ _⟩
  subst hl
  have K := Lib.hid (allWithin_any A ws.length c ws 0 100 w h (by omega))
  have hB := Below.refl w.heap.size w
  cases ha : ws.all (inB · 0 100)
  · rw [ha] at K
    go_enter Tryz.func144, Tryz.ntmps144
    go_wp2_with fail
    (with_reducible refine (within_any _ _ _ _).mono ?_)
    rintro e w1 ⟨rfl, rfl⟩
    rw [hm]
    go_wp2_with fail
    (with_reducible refine (K.out).mono ?_)
    rintro e w2 ⟨rfl, b2⟩
    replace hB := hB.trans (b2.mono hB.size)
    clear b2
    go_wp2_with fail
    go_ret
    exact ⟨by simp, hB⟩
  rw [ha] at K
  have hr : ∀ x ∈ ws, 0 ≤ x ∧ x ≤ 100 := fun x hx => inB_iff.1 (List.all_eq_true.1 ha x hx)
  have K2 := Lib.hid (fun W hW => isSorted_any A ws.length c ws W hW hn hr)
  clear ha hr
  generalize descB ws = q at *
  go_enter Tryz.func144, Tryz.ntmps144
  go_wp2_with fail
  (with_reducible refine (within_any _ _ _ _).mono ?_)
  rintro e w1 ⟨rfl, rfl⟩
  rw [hm]
  go_wp2_with fail
  (with_reducible refine (K.out).mono ?_)
  rintro e w2 ⟨rfl, b2⟩
  replace h := h.below b2
  replace hB := hB.trans (b2.mono hB.size)
  clear b2
  go_wp2_with fail
  (with_reducible refine (K2.out _ h).mono ?_)
  rintro e w3 ⟨rfl, b3⟩
  replace hB := hB.trans (b3.mono hB.size)
  clear b3
  go_wp2_with fail
  go_ret
  exact ⟨by simp, hB⟩
/-- the scores xs and c times the weights of the first j places of r -/
def scV (c : Int) (r ws xs : List Int) : Nat → List Int
  | 0 => xs
  | j + 1 => (scV c r ws xs j).set (ix r j).toNat (ix (scV c r ws xs j) (ix r j).toNat + c * ix ws j)
/-- the scores after k votes -/
def scTo (vs : List Vt) (ws : List Int) (M : Nat) : Nat → List Int
  | 0 => List.replicate M 0
  | k + 1 => scV (vx vs k).c (vx vs k).r ws (scTo vs ws M k) (vx vs k).r.length
def scores (m : Int) (vs : List Vt) (ws : List Int) : List Int := scTo vs ws m.toNat vs.length
theorem scV_len (c : Int) (r ws xs : List Int) : ∀ j, (scV c r ws xs j).length = xs.length
  | 0 => rfl
  | j + 1 => by rw [scV, List.length_set, scV_len c r ws xs j]
theorem scTo_len (vs : List Vt) (ws : List Int) (M : Nat) : ∀ k, (scTo vs ws M k).length = M
  | 0 => by simp [scTo]
  | k + 1 => by rw [scTo, scV_len, scTo_len vs ws M k]
theorem scores_len (m : Int) (vs : List Vt) (ws : List Int) : (scores m vs ws).length = m.toNat := scTo_len _ _ _ _
theorem prod_100 {a b : Int} (ha : 0 ≤ a ∧ a ≤ 1000) (hb : 0 ≤ b ∧ b ≤ 100) : 0 ≤ a * b ∧ a * b ≤ 100000 := by
  refine ⟨Int.mul_nonneg ha.1 hb.1, ?_⟩
  have := Int.mul_le_mul ha.2 hb.2 hb.1 (by omega)
  omega
theorem scV_bd {c B : Int} {r ws xs : List Int} (hc : 0 ≤ c ∧ c ≤ 1000) (hw : ∀ j, 0 ≤ ix ws j ∧ ix ws j ≤ 100) (hr : ∀ j, j < r.length → 0 ≤ ix r j ∧ ix r j < xs.length) (hx : ∀ i, 0 ≤ ix xs i ∧ ix xs i ≤ B) :
    ∀ j, j ≤ r.length → ∀ i, 0 ≤ ix (scV c r ws xs j) i ∧ ix (scV c r ws xs j) i ≤ B + 100000 * j
  | 0, _, i => by have := hx i; rw [scV]; omega
  | j + 1, h, i => by
    have ih := scV_bd hc hw hr hx j (by omega)
    have hj := hr j (by omega)
    have hp := prod_100 hc (hw j)
    rw [scV, ix_setP (by rw [scV_len]; omega)]
    have := ih i
    have := ih (ix r j).toNat
    split <;> omega
theorem scTo_bd {m : Int} {vs : List Vt} (F : PF m vs) {ws : List Int} (hw : ∀ j, 0 ≤ ix ws j ∧ ix ws j ≤ 100) : ∀ k, k ≤ vs.length → ∀ i, 0 ≤ ix (scTo vs ws m.toNat k) i ∧ ix (scTo vs ws m.toNat k) i ≤ 500000 * k
  | 0, _, i => by
    rw [scTo]
    by_cases h : i < m.toNat
    · rw [ix_lt (by simpa using h)]; simp
    · rw [ix_ge (by simpa using h)]; simp
  | k + 1, h, i => by
    have ih := scTo_bd F hw k (by omega)
    have hv := vx_mem (vs := vs) (j := k) (by omega)
    have f := rankOk_facts (F.r _ hv)
    have l := F.l _ hv
    have := scV_bd (F.c _ hv) hw (xs := scTo vs ws m.toNat k) (r := (vx vs k).r) (fun j hj => by have := f.2.2.2 j hj; rw [scTo_len]; omega) ih _ (Nat.le_refl _) i
    have m5 := F.m5
    rw [scTo]
    omega
theorem weights_bd {m : Int} {ws : List Int} (h : weightsOk m ws = true) : (ws.length : Int) = m ∧ ∀ j, 0 ≤ ix ws j ∧ ix ws j ≤ 100 := by
  unfold weightsOk at h
  rw [Bool.and_eq_true, Bool.and_eq_true, Bool.and_eq_true, decide_eq_true_eq, List.all_eq_true] at h
  refine ⟨h.1.1.2, fun j => ?_⟩
  by_cases hj : j < ws.length
  · exact inB_iff.1 (h.1.2 _ (ix_mem hj))
  · rw [ix_ge (by omega)]; omega
def scoresR (m : Int) (vs : List Vt) (ws : List Int) : List Int := if profOk m vs && weightsOk m ws then scores m vs ws else []
set_option maxRecDepth 100000 in
set_option maxHeartbeats 1000000 in
theorem implScoresOf (m : Int) (A : Option Addr) (n c : Nat) (vs : List Vt) (B : Option Addr) (l d : Nat) (ws : List Int) (w : World) (h : VotesAt w A n vs) (hn : n ≤ 1048576) (hx : ∀ v ∈ vs, v.r.length ≤ 1048576) (q : IntsAt w B l ws) (hl : l ≤ 1048576) :
    Calls Tryz.prog 96 #[.agg #[.int .i64 m, .slice A n c], .slice B l d] w fun e w' => ∃ A' c', e = .returned (.slice A' (scoresR m vs ws).length c') ∧ OwnI w' w.heap.size w'.heap.size (.slice A' (scoresR m vs ws).length c') (scoresR m vs ws) ∧ Below w.heap.size w w' := by
  have q0 := q.below (alloc_below w (.cells #[.int .i64 m, .slice A n c] 31))
  obtain rfl := q.len
  clear q
  obtain rfl := h.len
  have hB := alloc_below w (.cells #[.int .i64 m, .slice A vs.length c] 31)
  obtain ⟨x0, x1⟩ := PBox.new w m A vs.length c 31 rfl
  replace h := h.below hB
  generalize hw0 : w.alloc (.cells #[.int .i64 m, .slice A vs.length c] 31) = w0 at *
  have K := Lib.hid (implProfileOk m A vs.length c vs _ h hn hx)
  have K2 := Lib.hid (fun W hW => implWeightsOk m B ws.length d ws W hW hl)
  unfold scoresR
  clear hx
  cases hp : profOk m vs
  · rw [hp] at K
    simp only [Bool.false_eq_true, if_false, List.length_nil, Bool.false_and]
    go_enter Tryz.func96, Tryz.ntmps96
    go_wp2_with fail
    (with_reducible refine (K.out).mono ?_)
    rintro e w1 ⟨rfl, b1⟩
    replace hB := hB.trans (b1.mono hB.size)
    clear b1
    go_wp2
    go_ret
    exact ⟨_, _, rfl, OwnI.nil _ _ _, hB⟩
  rw [hp] at K
  cases hw : weightsOk m ws
  · rw [hw] at K2
    simp only [Bool.false_eq_true, if_false, List.length_nil, Bool.and_false]
    go_enter Tryz.func96, Tryz.ntmps96
    go_wp2_with fail
    (with_reducible refine (K.out).mono ?_)
    rintro e w1 ⟨rfl, b1⟩
    replace x0 := cell_carry b1 x0
    replace q0 := q0.below b1
    replace hB := hB.trans (b1.mono hB.size)
    clear b1
    go_wp2_with fail
    (with_reducible refine (K2.out _ q0).mono ?_)
    rintro e w2 ⟨rfl, b2⟩
    replace hB := hB.trans (b2.mono hB.size)
    clear b2
    go_wp2
    go_ret
    exact ⟨_, _, rfl, OwnI.nil _ _ _, hB⟩
  rw [hw] at K2
  have F := Lib.hid (pf_of hp)
  have W1 := Lib.hid (weights_bd hw)
  have BD := Lib.hid (scTo_bd F.out W1.out.2)
  simp only [Bool.and_self, if_true]
  obtain ⟨M, rfl⟩ : ∃ M : Nat, m = (M : Int) := ⟨m.toNat, by have := F.out.m1; omega⟩
  have M5 : M ≤ 5 := by have := F.out.m5; omega
  have LT := Lib.hid (fun k => scTo_len vs ws M k)
  unfold scores
  rw [Int.toNat_natCast] at *
  rw [LT.out]
  go_enter Tryz.func96, Tryz.ntmps96
  go_wp2_with fail
  (with_reducible refine (K.out).mono ?_)
  rintro e w1 ⟨rfl, b1⟩
  replace x0 := cell_carry b1 x0
  replace x1 := cell_carry b1 x1
  replace q0 := q0.below b1
  replace h := h.below b1
  replace hB := hB.trans (b1.mono hB.size)
  clear b1
  go_wp2_with fail
  (with_reducible refine (K2.out _ q0).mono ?_)
  rintro e w2 ⟨rfl, b2⟩
  replace x0 := cell_carry b2 x0
  replace x1 := cell_carry b2 x1
  replace q0 := q0.below b2
  replace h := h.below b2
  replace hB := hB.trans (b2.mono hB.size)
  clear b2
  clear K K2
  go_wp2_with ((with_reducible refine wpList_make_ints _ rfl _ _ rfl M rfl rfl (by omega) ?_))
  intro w3 ho hb hs
  have z3 := hb.size
  have x1' := cell_carry hb x1
  have e0 : List.replicate M (0 : Int) = scTo vs ws M 0 := rfl
  rw [e0] at ho
  have z0 := hB.size
  have gs : w2.heap.size < w3.heap.size := by omega
  clear hs e0 hw0 LT x0
  go_wp2
  clear x1 x1'
  go_loopw [26] (fun i wr => ∃ k : Nat, k ≤ vs.length ∧ i = .int .i64 k ∧ OwnI wr w2.heap.size (w2.heap.size + 1) (.slice (some ⟨w2.heap.size, 0, none⟩) M M) (scTo vs ws M k) ∧ Below w2.heap.size w2 wr ∧ w2.heap.size < wr.heap.size) (fun i _ => vs.length - (intOf i).toNat)
  case atStart => exact ⟨0, Nat.zero_le _, rfl, ho, hb, gs⟩
  case round =>
    clear ho hb gs z3
    obtain ⟨wo, rfl⟩ : ∃ wo, wo = wr := ⟨_, rfl⟩
    obtain ⟨k, hk, rfl, hok, hbr, zr⟩ := hrel
    by_cases hlt : k < vs.length
    · obtain ⟨b, o, A', c', rfl, _, hc1, hc2, hcc, hin⟩ := h.at_ hlt
      replace hc1 := cell_carry hbr hc1
      replace hc2 := cell_carry hbr hc2
      have fr := rankOk_facts (F.out.r _ (vx_mem hlt))
      have fc := F.out.c _ (vx_mem hlt)
      have wl := W1.out.1
      have HBD := Lib.hid (BD.out k (by omega))
      have HS : Hid (scTo vs ws M (k + 1) = scV (vx vs k).c (vx vs k).r ws (scTo vs ws M k) (vx vs k).r.length) := rfl
      have XL := scTo_len vs ws M k
      generalize vx vs k = v at *
      generalize scTo vs ws M k = xs at *
      obtain ⟨_, _, vl, vb⟩ := fr
      have VB := Lib.hid vb
      clear vb
      have VBD := Lib.hid (fun j hj => scV_bd (c := v.c) (r := v.r) fc W1.out.2 (xs := xs) (fun j hj => by have := VB.out j hj; omega) HBD.out j hj)
      have XL1 := Nat.le_of_eq XL
      have XL2 := Nat.le_of_eq XL.symm
      have vl1 : v.r.length ≤ M := by omega
      have wl1 : M ≤ ws.length := by omega
      clear XL vl wl
      have b1 := alloc_below wo (.cells #[.slice A' v.r.length c', .int .i64 v.c] 46)
      obtain ⟨y0, y1⟩ := new_pair wo (.slice A' v.r.length c') (.int .i64 v.c) 46 rfl
      have ho4 := hok.alloc (.cells #[.slice A' v.r.length c', .int .i64 v.c] 46)
      have hb4 := hbr.trans (b1.mono hbr.size)
      have z4 : wo.heap.size < (wo.alloc (.cells #[.slice A' v.r.length c', .int .i64 v.c] 46)).heap.size := by simp
      generalize hw4 : wo.alloc (.cells #[.slice A' v.r.length c', .int .i64 v.c] 46) = w4 at *
      clear b1
      go_wp2
      clear hw4 hc1 hc2 y0
      go_loopw [33] (fun i wr => ∃ j : Nat, j ≤ v.r.length ∧ i = .int .i64 j ∧ OwnI wr w2.heap.size (w2.heap.size + 1) (.slice (some ⟨w2.heap.size, 0, none⟩) M M) (scV v.c v.r ws xs j) ∧ Only w2.heap.size (w2.heap.size + 1) w4 wr) (fun i _ => v.r.length - (intOf i).toNat)
      case atStart => exact ⟨0, Nat.zero_le _, rfl, ho4, Only.refl _ _ _⟩
      case round =>
        clear ho4
        obtain ⟨j, hj, rfl, hoj, hon⟩ := hrel
        by_cases hlj : j < v.r.length
        · have hb5 := hb4.trans (hon.toBelow (Nat.le_refl _) hb4.size)
          obtain ⟨br, orr, rfl, _, cr⟩ := hin.at_ hlj
          have d1 := cell_carry hb5 (cr j hlj)
          obtain ⟨bw, ow, rfl, _, cw⟩ := q0.at_ (show 0 < ws.length by omega)
          have d2 := cell_carry hb5 (cw j (by omega))
          have d3 := hon.cell y1 (by show ¬ (_ ≤ wo.heap.size ∧ wo.heap.size < _); omega)
          have va := VB.out j hlj
          have vx := VBD.out j (by omega) (ix v.r j).toNat
          have hw0 := W1.out.2 j
          have HS2 : Hid (scV v.c v.r ws xs (j + 1) = (scV v.c v.r ws xs j).set (ix v.r j).toNat (ix (scV v.c v.r ws xs j) (ix v.r j).toNat + v.c * ix ws j)) := rfl
          have pr := prod_100 fc hw0
          generalize scV v.c v.r ws xs j = cur at *
          generalize ix v.r j = a0 at *
          generalize ix ws j = wj at *
          obtain ⟨a, rfl⟩ : ∃ a : Nat, a0 = (a : Int) := ⟨a0.toNat, by omega⟩
          rw [Int.toNat_natCast] at *
          have d4 := hoj.cellAt a (by omega)
          have d5 := hoj.frozenAt a
          obtain ⟨ho6, hon6⟩ := hoj.stored a (ix cur a + v.c * wj)
          generalize ix cur a = y at *
          have ew : IntKind.i64.wrap (v.c * wj) = v.c * wj := IntWalk.i64_in _ (by omega)
          have ew2 : IntKind.i64.wrap (y + v.c * wj) = y + v.c * wj := IntWalk.i64_in _ (by omega)
          clear cr cw
          have i5 : j < ws.length := by omega
          have i6 : (j : Int) < (ws.length : Int) := by omega
          go_upto_region 10 with fail
          go_still_tail 13, (by kernel_rfl)
          change wpList _ _ _ _ _ wr.drew
          have d6 : wr.drew.frozen? _ = _ := d5
          clear d1 d2 d3 ew ew2
          go_wp2
          go_roundw
          case rel => exact ⟨j + 1, by omega, by go_num, by rw [HS2.out]; exact ho6, hon.trans (hon6.trans (Only.of_below (B := (wr.setCell ⟨w2.heap.size, a, none⟩ (.int .i64 (y + v.c * wj))).heap.size) ((Below.refl _ _).drew) (Nat.le_refl _)))⟩
          case measure => simp [intOf]; omega
        · obtain rfl : j = v.r.length := by omega
          rw [← HS.out] at hoj
          have hb5 := hb4.trans (hon.toBelow (Nat.le_refl _) hb4.size)
          have z5 := hon.size
          go_wp2
          go_roundw
          case rel => exact ⟨k + 1, by omega, by go_num, hoj, hb5, by omega⟩
          case measure => simp [intOf]; omega
    · obtain rfl : k = vs.length := by omega
      have hB5 := hB.trans (hbr.mono hB.size)
      go_wp2
      go_ret
      exact ⟨_, _, rfl, hok.mono z0 (by omega), hB5⟩
def greatTo (xs : List Int) : Nat → List Int
  | 0 => []
  | k + 1 => greatTo xs k ++ (if ix xs k = lmax xs then [(k : Int)] else [])
def greatest (xs : List Int) : List Int := greatTo xs xs.length
theorem greatTo_len (xs : List Int) : ∀ k, (greatTo xs k).length ≤ k
  | 0 => by simp [greatTo]
  | k + 1 => by have := greatTo_len xs k; rw [greatTo]; split <;> simp <;> omega
set_option maxHeartbeats 400000 in
theorem implGreatest (A : Option Addr) (n c : Nat) (xs : List Int) (w : World) (h : IntsAt w A n xs) (hn : n ≤ 1048576) :
    Calls Tryz.prog 65 #[.slice A n c] w fun e w' => ∃ A' c', e = .returned (.slice A' (greatest xs).length c') ∧ OwnI w' w.heap.size w'.heap.size (.slice A' (greatest xs).length c') (greatest xs) ∧ Below w.heap.size w w' := by
  obtain rfl := h.len
  have hg : greatest xs = greatTo xs xs.length := rfl
  generalize greatest xs = T at *
  go_enter Tryz.func65, Tryz.ntmps65
  go_wp2
  go_loopw [3, 8] (fun v i wr => ∃ (k : Nat) (A' : Option Addr) (c' : Nat), k ≤ xs.length ∧ i = .int .i64 k ∧ v = .slice A' (greatTo xs k).length c' ∧ OwnI wr w.heap.size wr.heap.size (.slice A' (greatTo xs k).length c') (greatTo xs k) ∧ Below w.heap.size w wr) (fun _ i _ => xs.length - (intOf i).toNat)
  case atStart => exact ⟨0, none, 0, Nat.zero_le _, rfl, rfl, OwnI.nil _ _ _, Below.refl _ _⟩
  case round =>
    obtain ⟨k, A1, c1, hk, rfl, rfl, ho, hb⟩ := hrel
    have hl := greatTo_len xs k
    have z := hb.size
    by_cases hlt : k < xs.length
    · have HS : Hid (greatTo xs (k + 1) = greatTo xs k ++ (if ix xs k = lmax xs then [(k : Int)] else [])) := rfl
      generalize greatTo xs k = ys at *
      have K := Lib.hid (max_any A xs.length c xs wr (h.below hb) hn (by omega))
      obtain ⟨b, o, rfl, _, hc⟩ := (h.below hb).at_ hlt
      have d := hc k hlt
      clear hc hg
      generalize ix xs k = x at *
      generalize lmax xs = y at *
      by_cases hxy : x = y
      · subst hxy
        go_wp2_with fail
        (with_reducible refine (K.out).mono ?_)
        rintro e w1 ⟨rfl, rfl⟩
        go_wp2_with (at_builtin; refine wpList_append_int _ rfl _ _ rfl (w.heap.size) _ (ys.length) _ _ _ rfl (ho.alloc _) ((k : Int)) _ 1 rfl (new_cell _ _ _ rfl) (by omega) (by simp; omega) (by simp; omega) ?_)
        intro A4 c4 w4 o4 on4
        replace hb := (hb.alloc z _).trans (on4.toBelow (Nat.le_refl _) (by simp; omega))
        go_wp2
        go_roundw
        case rel => exact ⟨k + 1, A4, c4, by omega, by go_num, by rw [HS.out]; simp, by rw [HS.out]; simpa using o4, hb⟩
        case measure => simp [intOf]; omega
      · have e : (x == y) = false := by rw [beq_eq_false_iff_ne]; exact hxy
        rw [if_neg hxy, List.append_nil] at HS
        clear hxy
        go_wp2_with fail
        (with_reducible refine (K.out).mono ?_)
        rintro e w1 ⟨rfl, rfl⟩
        go_wp2
        go_roundw
        case rel => exact ⟨k + 1, A1, c1, by omega, by go_num, by rw [HS.out], by rw [HS.out]; exact ho, hb⟩
        case measure => simp [intOf]; omega
    · obtain rfl : k = xs.length := by omega
      rw [← hg] at ho ⊢
      go_wp2
      go_ret
      exact ⟨_, _, rfl, ho, hb⟩
theorem scoresR_len {m : Int} {vs : List Vt} {ws : List Int} : (scoresR m vs ws).length ≤ 5 := by
  unfold scoresR
  cases hp : profOk m vs
  · simp
  · have := (pf_of hp).m5
    split
    · rw [scores_len]; omega
    · simp
theorem implScoreWinners (m : Int) (A : Option Addr) (n c : Nat) (vs : List Vt) (B : Option Addr) (l d : Nat) (ws : List Int) (w : World) (h : VotesAt w A n vs) (hn : n ≤ 1048576) (hx : ∀ v ∈ vs, v.r.length ≤ 1048576) (q : IntsAt w B l ws) (hl : l ≤ 1048576) :
    Calls Tryz.prog 61 #[.agg #[.int .i64 m, .slice A n c], .slice B l d] w fun e w' => ∃ A' c', e = .returned (.slice A' (greatest (scoresR m vs ws)).length c') ∧ OwnI w' w.heap.size w'.heap.size (.slice A' (greatest (scoresR m vs ws)).length c') (greatest (scoresR m vs ws)) ∧ Below w.heap.size w w' := by
  have q0 := q.below (alloc_below w (.cells #[.int .i64 m, .slice A n c] 31))
  obtain rfl := h.len
  have hB := alloc_below w (.cells #[.int .i64 m, .slice A vs.length c] 31)
  obtain ⟨x0, x1⟩ := PBox.new w m A vs.length c 31 rfl
  replace h := h.below hB
  generalize hw0 : w.alloc (.cells #[.int .i64 m, .slice A vs.length c] 31) = w0 at *
  have K := Lib.hid (implScoresOf m A vs.length c vs B l d ws _ h hn hx q0 hl)
  have sl := scoresR_len (m := m) (vs := vs) (ws := ws)
  clear hx q
  generalize scoresR m vs ws = ss at *
  go_enter Tryz.func61, Tryz.ntmps61
  go_wp2_with fail
  (with_reducible refine K.out.mono ?_)
  rintro e w1 ⟨A1, c1, rfl, o1, b1⟩
  replace hB := hB.trans (b1.mono hB.size)
  clear b1
  go_wp2_with fail
  (with_reducible refine (implGreatest A1 _ c1 ss _ o1.at_ (by omega)).mono ?_)
  rintro e w2 ⟨A2, c2, rfl, o2, b2⟩
  go_wp2
  go_ret
  exact ⟨_, _, rfl, o2.mono hB.size (Nat.le_refl _), hB.trans (b2.mono hB.size)⟩
end Go.Proofs.YtcjnjnegaoihoaaGreat
namespace Go.Proofs.YtcjnjnegaoihoaaGreat
set_option linter.unusedSimpArgs false
set_option linter.unusedVariables false
set_option linter.unusedVariables false
open Go.RowKit
section
variable {P : Program} {ops : Array Oper} {md : Region.Mode} {C : World → Prop}

/-- f operations of the head are still to come, in whatever order; L behind them -/
def headQ (P : Program) (md : Region.Mode) (ops : Array Oper) (C : World → Prop) (n : Nat) (L : Array Bool → Act → Prop) : Nat → Array Bool → Act → Prop
  | 0, d, a => L d a
  | f + 1, d, a => Region.ready md ops d ≠ [] ∧ ∀ i ∈ Region.ready md ops d, i < n ∧ qOp P ops C i (headQ P md ops C n L f (d.setIfInBounds i true)) a
theorem headQ_any {n g : Nat} {L : Array Bool → Act → Prop} {Q : Exit → Act → World → Prop} (hL : ∀ d a w, C w → L d a → wpAny P md ops Q g d a w) :
    ∀ f d a w, C w → headQ P md ops C n L f d a → wpAny P md ops Q (f + g) d a w := by
  intro f
  induction f with
  | zero => intro d a w hw h; simpa using hL d a w hw h
  | succ f ih =>
    intro d a w hw h
    rw [Nat.succ_add]
    exact ⟨fun e => absurd e h.1, fun i hi => wpOp_of_qOp hw (fun a' w' hw' => ih _ a' w' hw') (h.2 i hi).2⟩
theorem headQ_take {n i : Nat} {oi : Oper} {v : Value} {L : Array Bool → Act → Prop} (hi : ops[i]? = some oi) (hsel : ∀ (j : Nat) (o : Oper) cs b, ops[j]? = some o → o.op ≠ .select cs b)
    (hs : Region.sinkB md ops n = true) (hc : Region.chainB md ops n = true) (hn : n < ops.size) (hin : i < n) (hdone : ∀ d a, L d a → ∀ j ∈ Region.ready md ops d, n ≤ j) :
    ∀ f d a, HeadInv md ops n d → (∀ j oj, ops[j]? = some oj → j ≠ i → d.getD j true = false → (∀ e ∈ oj.after, Region.binds md e = true → e.on ≠ i) → oi.apart ops oj = true) →
      i ∈ Region.ready md ops d → YieldsIn P ops C oi v a → headQ P md ops C n L f (d.setIfInBounds i true) (a.put oi.dst v) → headQ P md ops C n L (f + 1) d a := by
  intro f
  induction f with
  | zero =>
    intro d a inv _ hr hy H
    refine ⟨List.ne_nil_of_mem hr, fun j hj => ?_⟩
    have hjn : j < n := Nat.lt_of_not_le fun h => tail_waits hs hc hn inv _ i rfl hin (mem_ready.1 hr).1 j h hj
    by_cases e : j = i
    · subst e; exact ⟨hjn, hy.qOp hi H⟩
    · exact absurd (hdone _ _ H j (ready_mono hj e)) (by omega)
  | succ f ih =>
    intro d a inv hfree hr hy H
    refine ⟨List.ne_nil_of_mem hr, fun j hj => ?_⟩
    have hjn : j < n := Nat.lt_of_not_le fun h => tail_waits hs hc hn inv _ i rfl hin (mem_ready.1 hr).1 j h hj
    by_cases e : j = i
    · subst e; exact ⟨hjn, hy.qOp hi H⟩
    obtain ⟨hjd, oj, hoj, hall⟩ := mem_ready.1 hj
    have hnot : ∀ x ∈ oj.after, Region.binds md x = true → x.on ≠ i := fun x hx hb hon => by
      have h1 := hall x hx hb
      rw [hon, getD_both (mem_ready.1 hr).1] at h1
      cases h1
    refine ⟨hjn, qOp_mono (fun a' h3 => ih (d.setIfInBounds j true) a' (inv.set hj hjn) (fun k ok hk hki hun hno => ?_) (ready_mono hr (Ne.symm e)) h3.1 ?_)
      (qOp_put hoj (hfree j oj hoj e hjd hnot) (fun cs b => hsel i oi cs b hi) (fun cs b => hsel j oj cs b hoj) hy (H.2 j (ready_mono hj e)).2)⟩
    · refine hfree k ok hk hki ?_ hno
      by_cases hjk : j = k
      · subst hjk; exact hjd
      · rwa [getD_set_ne true hjk] at hun
    · rw [Array.setIfInBounds_comm _ _ e]; exact h3.2
theorem headQ_lex {n g : Nat} {K : Act → Prop} (hsel : Region.noSelect ops = true) (hs : Region.sinkB md ops n = true) (hc : Region.chainB md ops n = true) (hn : n < ops.size) :
    ∀ (l : List Oper) (k : Nat) (d : Array Bool) (a : Act), (∀ j, j < l.length → l[j]? = ops[k + j]?) → k + l.length = n → HeadInv md ops n d → Region.lexHead md ops g l.length k d = true → wpQuiet P ops C K l a →
    headQ P md ops C n (fun d' a' => Region.seqB md ops g n d' = true ∧ K a') l.length d a := by
  intro l
  induction l with
  | nil =>
    intro k d a _ hk _ hB h
    obtain rfl : k = n := by simpa using hk
    exact ⟨by simpa [Region.lexHead] using hB, h⟩
  | cons o l ih =>
    intro k d a hl hk inv hB h
    have h0 : ops[k]? = some o := by simpa using (hl 0 (by simp)).symm
    simp only [List.length_cons, Region.lexHead, Bool.and_eq_true] at hB
    have hkn : k < n := by simp only [List.length_cons] at hk; omega
    have hr : k ∈ Region.ready md ops d := by simpa using hB.1.1
    obtain ⟨v, hy, hK⟩ := yieldsIn_of_qOp h0 (show qOp P ops C k (wpQuiet P ops C K l) a by unfold qOp; simp only [h0]; exact h)
    exact headQ_take h0 (Region.noSelect_spec hsel) hs hc hn hkn (fun d' a' hL => seqB_ready hL.1) l.length d a inv (Region.free_spec h0 hB.1.2) hr hy
      (ih (k + 1) _ _ (fun j hj => by have := hl (j + 1) (by simp; omega); simpa [Nat.add_assoc, Nat.add_comm 1 j] using this) (by simp only [List.length_cons] at hk; omega) (inv.set hr hkn) hB.2 hK)
theorem wp_region_quiet_tail {id : Nat} {Q : Exit → Act → World → Prop} {a : Act} {w : World} {l : List Oper} (n : Nat) (hm : P.follows .mixedOrders = true) (hB : Region.lexTailB .any l.toArray n = true) (hC : C w.drew)
    (h : wpQuiet P l.toArray C (fun a' => ∀ w', C w' → wpList P l.toArray Q (l.drop n) a' w') (l.take n) a) : (Code.region id l.toArray true).wp P Q a w := by
  simp only [Region.lexTailB, Bool.and_eq_true, decide_eq_true_eq] at hB
  obtain ⟨⟨⟨⟨hsel, hn⟩, hs⟩, hc⟩, hlex⟩ := hB
  have hn' : n < l.length := by simpa using hn
  have htl : (l.take n).length = n := by simp; omega
  have H := headQ_lex (md := .any) (g := l.toArray.size - n) hsel hs hc hn (l.take n) 0 (Array.replicate l.toArray.size false) a (fun j hj => by
      have hj' : j < n := by rw [htl] at hj; exact hj
      simp [hj']) (by simpa using htl)
    ⟨by simp, fun j oj _ hl => (by rw [getD_replicate_false] at hl; cases hl), fun t _ ht => getD_in (by simpa using ht) (getD_replicate_false _ _)⟩ (by rw [htl]; exact hlex) h
  refine wp_region_any hm ?_
  have R := headQ_any (Q := Q) (g := l.toArray.size - n) (fun d a' w' hw' hL => by
    have := wpAny_of_seq (md := .any) (Q' := Q) (l.drop n) n d a' w' (fun j => by simp [List.getElem?_drop]) (by simpa using hL.1) (hL.2 w' hw')
    simpa using this) _ _ _ _ (show C { w with drawn := w.drawn + 1 } from hC) H
  rw [htl, show n + (l.toArray.size - n) = l.toArray.size by omega] at R
  exact R
end
theorem wp_region_later_tail {P : Program} {id : Nat} {Q : Exit → Act → World → Prop} {a : Act} {w : World} {l : List Oper} (n : Nat) (hm : P.follows .mixedOrders = true) (hB : Region.lexTailB .any l.toArray n = true)
    (h : wpQuiet P l.toArray (fun w' => ∃ L : Later w, w' = L.W) (fun a' => ∀ w', (∃ L : Later w, w' = L.W) → wpList P l.toArray Q (l.drop n) a' w') (l.take n) a) : (Code.region id l.toArray true).wp P Q a w :=
  wp_region_quiet_tail (C := fun w' => ∃ L : Later w, w' = L.W) n hm hB ⟨⟨w.drew, (Below.refl _ _).drew⟩, rfl⟩ h
end Go.Proofs.YtcjnjnegaoihoaaGreat
namespace Go.Proofs.YtcjnjnegaoihoaaGreat
set_option linter.unusedSimpArgs false
set_option linter.unusedVariables false
set_option linter.unusedVariables false
open Go.RowKit

theorem mul_bd {u v U V : Int} (u0 : 0 ≤ u) (u1 : u ≤ U) (v0 : 0 ≤ v) (v1 : v ≤ V) : 0 ≤ u * v ∧ u * v ≤ U * V :=
  ⟨Int.mul_nonneg u0 v0, Int.mul_le_mul u1 v1 v0 (Int.le_trans u0 u1)⟩
def cmpI (a b : Int) : Int := if a < b then -1 else if b < a then 1 else 0
def topC (m x a : Int) : Int := if m = 1 then x else if m = 2 then x * (2 * a + 1) else if m = 3 then x * x else if m = 4 then 2 * x else x
def botC (m a : Int) : Int := if m = 1 then a else if m = 2 then 2 * a * (a + 1) else if m = 3 then a * (a + 1) else if m = 4 then 2 * a + 1 else a + 1
def claimC (m x a y b : Int) : Int :=
  if x = 0 ∨ y = 0 then cmpI x y else if botC m a = 0 ∧ botC m b = 0 then cmpI x y else if botC m a = 0 then 1 else if botC m b = 0 then -1 else cmpI (topC m x a * botC m b) (topC m y b * botC m a)
theorem post_bd {x a : Int} (x0 : 0 ≤ x) (x1 : x ≤ 1000000) (a0 : 0 ≤ a) (a1 : a ≤ 200) :
    (0 ≤ a * (a + 1) ∧ a * (a + 1) ≤ 40200) ∧ (0 ≤ 2 * a * (a + 1) ∧ 2 * a * (a + 1) ≤ 80400) ∧ (0 ≤ x * (2 * a + 1) ∧ x * (2 * a + 1) ≤ 401000000) ∧ (0 ≤ x * x ∧ x * x ≤ 1000000000000) := by
  have h1 := mul_bd a0 a1 (show 0 ≤ a + 1 by omega) (show a + 1 ≤ 201 by omega)
  have h2 := mul_bd (show 0 ≤ 2 * a by omega) (show 2 * a ≤ 400 by omega) (show 0 ≤ a + 1 by omega) (show a + 1 ≤ 201 by omega)
  have h3 := mul_bd x0 x1 (show 0 ≤ 2 * a + 1 by omega) (show 2 * a + 1 ≤ 401 by omega)
  have h4 := mul_bd x0 x1 x0 x1
  exact ⟨by omega, by omega, by omega, by omega⟩
theorem botC_bd {m a : Int} (a0 : 0 ≤ a) (a1 : a ≤ 200) : 0 ≤ botC m a ∧ botC m a ≤ 80400 := by
  obtain ⟨h1, h2, _⟩ := post_bd (x := 0) (by omega) (by omega) a0 a1
  unfold botC
  by_cases e1 : m = 1 <;> by_cases e2 : m = 2 <;> by_cases e3 : m = 3 <;> by_cases e4 : m = 4 <;> simp only [e1, e2, e3, e4, if_true, if_false] <;> omega
theorem topC_bd {m x a : Int} (x0 : 0 ≤ x) (x1 : x ≤ 1000000) (a0 : 0 ≤ a) (a1 : a ≤ 200) : 0 ≤ topC m x a ∧ topC m x a ≤ 1000000000000 := by
  obtain ⟨_, _, h3, h4⟩ := post_bd x0 x1 a0 a1
  unfold topC
  by_cases e1 : m = 1 <;> by_cases e2 : m = 2 <;> by_cases e3 : m = 3 <;> by_cases e4 : m = 4 <;> simp only [e1, e2, e3, e4, if_true, if_false] <;> omega

theorem isNaN_any (x : Int) (w : World) : Calls Tryz.prog 145 #[.int .i64 x] w fun e w' => e = .returned (.bool false) ∧ w = w' := by
  go_enter Tryz.func145, Tryz.ntmps145
  go_wp2
  go_ret
  exact ⟨by simp, rfl⟩
theorem compare_any (a b : Int) (w : World) : Calls Tryz.prog 102 #[.int .i64 a, .int .i64 b] w fun e w' => e = .returned (.int .i64 (cmpI a b)) ∧ w = w' := by
  unfold cmpI
  by_cases h1 : a < b
  · rw [if_pos h1]
    go_enter Tryz.func102, Tryz.ntmps102
    go_wp2_with (go_at_call 145; refine (isNaN_any _ _).mono ?_; rintro e w' ⟨rfl, rfl⟩)
    go_ret
    exact ⟨rfl, rfl⟩
  rw [if_neg h1]
  by_cases h2 : b < a
  · rw [if_pos h2]
    go_enter Tryz.func102, Tryz.ntmps102
    go_wp2_with (go_at_call 145; refine (isNaN_any _ _).mono ?_; rintro e w' ⟨rfl, rfl⟩)
    go_ret
    exact ⟨rfl, rfl⟩
  · rw [if_neg h2]
    go_enter Tryz.func102, Tryz.ntmps102
    go_wp2_with (go_at_call 145; refine (isNaN_any _ _).mono ?_; rintro e w' ⟨rfl, rfl⟩)
    go_ret
    exact ⟨rfl, rfl⟩
/-- the other factor of a signpost -/
def qC (m a : Int) : Int := if m = 1 then 1 else if m = 2 then 2 * a + 1 else if m = 3 then 1 else if m = 4 then 2 else 1
theorem qC_bd {m a : Int} (a0 : 0 ≤ a) (a1 : a ≤ 200) : 0 ≤ qC m a ∧ qC m a ≤ 401 := by
  unfold qC
  by_cases e1 : m = 1 <;> by_cases e2 : m = 2 <;> by_cases e3 : m = 3 <;> by_cases e4 : m = 4 <;> simp only [e1, e2, e3, e4, if_true, if_false] <;> omega
theorem topC_pos {m x a : Int} (x0 : 0 < x) (a0 : 0 ≤ a) : 0 < topC m x a := by
  have h1 := Int.mul_pos x0 (show 0 < 2 * a + 1 by omega)
  have h2 := Int.mul_pos x0 x0
  unfold topC
  by_cases e1 : m = 1 <;> by_cases e2 : m = 2 <;> by_cases e3 : m = 3 <;> by_cases e4 : m = 4 <;> simp only [e1, e2, e3, e4, if_true, if_false] <;> omega
theorem topC_zero {m a : Int} : topC m 0 a = 0 := by unfold topC; simp
theorem topC_q {m x a : Int} (h : m ≠ 3) : topC m x a = x * qC m a := by
  unfold topC qC
  by_cases e1 : m = 1
  · simp [e1]
  by_cases e2 : m = 2
  · simp [e2]
  by_cases e4 : m = 4
  · simp [e4]; omega
  · simp [e1, e2, e4, h]
theorem cmpI_pos {a b : Int} (h : b < a) : cmpI a b = 1 := by unfold cmpI; rw [if_neg (by omega), if_pos h]
theorem cmpI_neg {a b : Int} (h : a < b) : cmpI a b = -1 := by unfold cmpI; rw [if_pos h]
theorem cmpI_same (a : Int) : cmpI a a = 0 := by unfold cmpI; rw [if_neg (by omega), if_neg (by omega)]
/-- the comparison as the reference states it -/
def specC (hill : Bool) (x y P Q R S : Int) : Int :=
  if P = 0 then (if R = 0 then cmpI x y else if x = 0 then cmpI x y else cmpI x 0)
  else if R = 0 then (if y = 0 then cmpI x y else cmpI 0 y) else if hill then cmpI (x * x * R) (y * y * P) else cmpI (x * Q * R) (y * S * P)
theorem specC_eq {m x a y b : Int} (x0 : 0 ≤ x) (a0 : 0 ≤ a) (a1 : a ≤ 200) (y0 : 0 ≤ y) (b0 : 0 ≤ b) (b1 : b ≤ 200) : specC (m == 3) x y (botC m a) (qC m a) (botC m b) (qC m b) = claimC m x a y b := by
  have p0 := (botC_bd (m := m) a0 a1).1
  have r0 := (botC_bd (m := m) b0 b1).1
  have e : (if (m == 3) = true then cmpI (x * x * botC m b) (y * y * botC m a) else cmpI (x * qC m a * botC m b) (y * qC m b * botC m a)) = cmpI (topC m x a * botC m b) (topC m y b * botC m a) := by
    by_cases h : m = 3
    · subst h; rfl
    · rw [if_neg (by simpa using h), topC_q h, topC_q h]
  unfold specC claimC
  rw [e]
  clear e
  have hx := topC_pos (m := m) (x := x) (a := a)
  have hy := topC_pos (m := m) (x := y) (a := b)
  by_cases ex : x = 0
  · subst ex
    by_cases ey : y = 0
    · subst ey
      simp [topC_zero, cmpI_same]
    · have hy' := hy (by omega) b0
      by_cases eP : botC m a = 0
      · simp [eP]
      · by_cases eR : botC m b = 0
        · simp [eP, eR, ey]
        · have := Int.mul_pos hy' (show 0 < botC m a by omega)
          simp only [eP, eR, if_false, if_true, true_or, topC_zero, Int.zero_mul]
          rw [cmpI_neg this, cmpI_neg (by omega)]
  · by_cases ey : y = 0
    · subst ey
      have hx' := hx (by omega) a0
      by_cases eP : botC m a = 0
      · simp [eP, ex]
      · by_cases eR : botC m b = 0
        · simp [eP, eR]
        · have := Int.mul_pos hx' (show 0 < botC m b by omega)
          simp only [eP, eR, if_false, if_true, or_true, topC_zero, Int.zero_mul]
          rw [cmpI_pos this, cmpI_pos (by omega)]
    · by_cases eP : botC m a = 0
      · by_cases eR : botC m b = 0
        · simp [eP, eR]
        · simp only [eP, eR, ex, ey, if_true, if_false, and_false, or_self]
          rw [cmpI_pos (by omega)]
      · by_cases eR : botC m b = 0
        · simp only [eP, eR, ex, ey, if_true, if_false, false_and, or_self]
          rw [cmpI_neg (by omega)]
        · simp [eP, eR, ex, ey]
/-- the comparison of claims with its check -/
def claimsC (m x a y b : Int) : Int := if inB m 1 5 && inB x 0 1000000 && inB y 0 1000000 && inB a 0 100 && inB b 0 100 then claimC m x a y b else -2
end Go.Proofs.YtcjnjnegaoihoaaGreat
