/- Scores, the reference's side: VetoWeights, l05Scores, l05Best, ScoreWinners. ScoreWinners, CopelandScores, MaximinScores, the reference's side. -/
import Derived.Test.YtaanppihgldeaaaGreatDoorW21
namespace Go.Proofs.YtaanppihgldeaaaGreatDoor
set_option linter.unusedSimpArgs false
set_option linter.unusedVariables false
set_option linter.unusedVariables false
open Go.RowKit

theorem vetoW_eq {M : Nat} (h1 : 1 ≤ M) (h5 : M ≤ 5) : vetoW (M : Int) = lfn (part (fun _ => 1) (M - 1) 0 0) M := by
  unfold vetoW wtsOf
  rw [inB_15 (by omega) (by omega), if_pos rfl, Int.toNat_natCast, mapTo_lfn]
  refine lfn_ext fun i hi => ?_
  unfold part
  by_cases e : i < M - 1
  · rw [if_pos e]; show min 1 ((M : Int) - 1 - (i : Int)) = 1; omega
  · rw [if_neg e]; show min 1 ((M : Int) - 1 - (i : Int)) = _; split <;> omega
theorem specVeto (m : Int) (w : World) :
    Calls Tryz.prog 131 #[.int .i64 m] w fun e w' => ∃ A' c', e = .returned (.slice A' (vetoW m).length c') ∧ OwnI w' w.heap.size w'.heap.size (.slice A' (vetoW m).length c') (vetoW m) ∧ Below w.heap.size w w' := by
  cases hm : inB m 1 5
  · have e : vetoW m = [] := by unfold vetoW wtsOf; rw [hm]; rfl
    rw [e]
    go_enter Tryz.func131, Tryz.ntmps131
    go_wp2_with fail
    (with_reducible refine (l01In_any _ _ _ _).mono ?_)
    rintro e w1 ⟨rfl, rfl⟩
    rw [hm]
    go_wp2
    go_ret
    exact ⟨_, _, rfl, OwnI.nil _ _ _, Below.refl _ _⟩
  have hm' := inB_iff.1 hm
  obtain ⟨M, rfl⟩ : ∃ M : Nat, m = (M : Int) := ⟨m.toNat, by omega⟩
  have HE := Lib.hid (vetoW_eq (M := M) (by omega) (by omega))
  have el : (vetoW (M : Int)).length = M := by rw [HE.out, lfn_len]
  rw [el]
  have ew : IntKind.i64.wrap ((M : Int) - 1) = (M : Int) - 1 := IntWalk.i64_in _ (by omega)
  go_enter Tryz.func131, Tryz.ntmps131
  go_wp2_with fail
  (with_reducible refine (l01In_any _ _ _ _).mono ?_)
  rintro e w1 ⟨rfl, rfl⟩
  rw [hm]
  clear hm el
  go_wp2_with ((with_reducible refine wpList_make_ints _ rfl _ _ rfl M rfl rfl (by omega) ?_))
  intro w2 ho hb hs
  rw [part_start (full := fun _ => 1) (M := M) 0] at ho
  have hz : w.heap.size < w2.heap.size := by omega
  clear hs
  go_wp2
  go_loopw [4] (fun i wr => ∃ k : Nat, k ≤ M - 1 ∧ i = .int .i64 k ∧ OwnI wr w.heap.size (w.heap.size + 1) (.slice (some ⟨w.heap.size, 0, none⟩) M M) (lfn (part (fun _ => 1) k 0 0) M) ∧ Below w.heap.size w wr ∧ w.heap.size < wr.heap.size) (fun i _ => M - (intOf i).toNat)
  case atStart => exact ⟨0, Nat.zero_le _, rfl, ho, hb, hz⟩
  case round =>
    clear ho hb hz
    obtain ⟨k, hk, rfl, ho, hb, hz⟩ := hrel
    by_cases hlt : (k : Int) < (M : Int) - 1
    · have f1 := ho.frozenAt k
      have f2 := ho.cellAt k (by omega)
      obtain ⟨ho6, hon6⟩ := ho.stored k 1
      rw [part_set _ (by omega), part_next (full := fun _ => 1) (M := M) (k := k) rfl] at ho6
      have i1 : (k : Int) < (M : Int) := by omega
      have hb6 := hb.trans (hon6.toBelow (Nat.le_refl _) hb.size)
      clear ho hon6 hb
      go_wp2
      go_roundw
      case rel => exact ⟨k + 1, by omega, by go_num, ho6, hb6, by rw [World.size_setCell]; omega⟩
      case measure => simp [intOf]; omega
    · have e : k = M - 1 := by omega
      rw [e, ← HE.out] at ho
      have HO := Lib.hid (ho.mono (Nat.le_refl _) (show w.heap.size + 1 ≤ wr.heap.size by omega))
      clear ho e
      go_wp2
      go_ret
      exact ⟨_, _, rfl, HO.out, hb⟩
theorem specL05Ok (m : Int) (A : Option Addr) (n c : Nat) (vs : List Vt) (B : Option Addr) (l d : Nat) (ws : List Int) (w : World) (h : VotesAt w A n vs) (hn : n ≤ 1048576) (hx : ∀ v ∈ vs, v.r.length ≤ 1048576) (q : IntsAt w B l ws) (hl : l ≤ 1048576) :
    Calls Tryz.prog 179 #[.agg #[.int .i64 m, .slice A n c], .slice B l d] w fun e w' => e = .returned (.bool (profOk m vs && weightsOk m ws)) ∧ Below w.heap.size w w' := by
  have q0 := q.below (alloc_below w (.cells #[.int .i64 m, .slice A n c] 24))
  obtain rfl := h.len
  have hB := alloc_below w (.cells #[.int .i64 m, .slice A vs.length c] 24)
  obtain ⟨x0, x1⟩ := PBox.new w m A vs.length c 24 rfl
  replace h := h.below hB
  generalize hw0 : w.alloc (.cells #[.int .i64 m, .slice A vs.length c] 24) = w0 at *
  have K := Lib.hid (specProfileOk m A vs.length c vs _ h hn hx)
  have K2 := Lib.hid (fun W hW => specWeightsOk m B l d ws W hW hl)
  clear hx q
  generalize profOk m vs = p at *
  cases p
  · go_enter Tryz.func179, Tryz.ntmps179
    go_wp2_with fail
    (with_reducible refine (K.out).mono ?_)
    rintro e w1 ⟨rfl, b1⟩
    replace x0 := cell_carry b1 x0
    replace hB := hB.trans (b1.mono hB.size)
    clear b1
    go_wp2
    go_ret
    exact ⟨rfl, hB⟩
  · go_enter Tryz.func179, Tryz.ntmps179
    go_wp2_with fail
    (with_reducible refine (K.out).mono ?_)
    rintro e w1 ⟨rfl, b1⟩
    replace x0 := cell_carry b1 x0
    replace q0 := q0.below b1
    replace hB := hB.trans (b1.mono hB.size)
    clear b1
    go_wp2_with fail
    (with_reducible refine (K2.out _ q0).mono ?_)
    rintro e w2 ⟨rfl, rfl⟩
    go_wp2
    go_ret
    exact ⟨by simp, hB⟩
set_option maxRecDepth 100000 in
set_option maxHeartbeats 1000000 in
theorem specScores (m : Int) (A : Option Addr) (n c : Nat) (vs : List Vt) (B : Option Addr) (l d : Nat) (ws : List Int) (w : World) (h : VotesAt w A n vs) (hp : profOk m vs = true) (hw : weightsOk m ws = true) (q : IntsAt w B l ws) :
    Calls Tryz.prog 180 #[.agg #[.int .i64 m, .slice A n c], .slice B l d] w fun e w' => ∃ A' c', e = .returned (.slice A' (scores m vs ws).length c') ∧ OwnI w' w.heap.size w'.heap.size (.slice A' (scores m vs ws).length c') (scores m vs ws) ∧ Below w.heap.size w w' := by
  have q0 := q.below (alloc_below w (.cells #[.int .i64 m, .slice A n c] 24))
  obtain rfl := q.len
  clear q
  obtain rfl := h.len
  have hB := alloc_below w (.cells #[.int .i64 m, .slice A vs.length c] 24)
  obtain ⟨x0, x1⟩ := PBox.new w m A vs.length c 24 rfl
  replace h := h.below hB
  generalize hw0 : w.alloc (.cells #[.int .i64 m, .slice A vs.length c] 24) = w0 at *
  have F := Lib.hid (pf_of hp)
  have hn := F.out.n
  have W1 := Lib.hid (weights_bd hw)
  have BD := Lib.hid (scTo_bd F.out W1.out.2)
  obtain ⟨M, rfl⟩ : ∃ M : Nat, m = (M : Int) := ⟨m.toNat, by have := F.out.m1; omega⟩
  have M5 : M ≤ 5 := by have := F.out.m5; omega
  have LT := Lib.hid (fun k => scTo_len vs ws M k)
  unfold scores
  rw [Int.toNat_natCast] at *
  rw [LT.out]
  clear hp hw
  go_enter Tryz.func180, Tryz.ntmps180
  go_wp2_with ((with_reducible refine wpList_make_ints _ rfl _ _ rfl M rfl rfl (by omega) ?_))
  intro w3 ho hb hs
  have z3 := hb.size
  have x1' := cell_carry hb x1
  have e0 : List.replicate M (0 : Int) = scTo vs ws M 0 := rfl
  rw [e0] at ho
  have z0 := hB.size
  have gs : w0.heap.size < w3.heap.size := by omega
  clear hs e0 hw0 LT x0
  go_wp2
  clear x1 x1'
  go_loopw [16] (fun i wr => ∃ k : Nat, k ≤ vs.length ∧ i = .int .i64 k ∧ OwnI wr w0.heap.size (w0.heap.size + 1) (.slice (some ⟨w0.heap.size, 0, none⟩) M M) (scTo vs ws M k) ∧ Below w0.heap.size w0 wr ∧ w0.heap.size < wr.heap.size) (fun i _ => vs.length - (intOf i).toNat)
  case atStart => exact ⟨0, Nat.zero_le _, rfl, ho, hb, gs⟩
  case round =>
    clear ho hb gs z3
    obtain ⟨wo, rfl⟩ : ∃ wo, wo = wr := ⟨_, rfl⟩
    obtain ⟨k, hk, rfl, hok, hbr, zr⟩ := hrel
    by_cases hlt : k < vs.length
    · obtain ⟨b, o, A', c', rfl, _, hc1, hc2, hcc, hin⟩ := h.at_ hlt
      replace hc1 := cell_carry hbr hc1
      replace hc2 := cell_carry hbr hc2
      have fr := rankOk_facts (F.out.r _ (vx_mem hlt))
      have fc := F.out.c _ (vx_mem hlt)
      have wl := W1.out.1
      have HBD := Lib.hid (BD.out k (by omega))
      have HS : Hid (scTo vs ws M (k + 1) = scV (vx vs k).c (vx vs k).r ws (scTo vs ws M k) (vx vs k).r.length) := rfl
      have XL := scTo_len vs ws M k
      generalize vx vs k = v at *
      generalize scTo vs ws M k = xs at *
      obtain ⟨_, _, vl, vb⟩ := fr
      have VB := Lib.hid vb
      clear vb
      have VBD := Lib.hid (fun j hj => scV_bd (c := v.c) (r := v.r) fc W1.out.2 (xs := xs) (fun j hj => by have := VB.out j hj; omega) HBD.out j hj)
      have XL1 := Nat.le_of_eq XL
      have XL2 := Nat.le_of_eq XL.symm
      have vl1 : v.r.length ≤ M := by omega
      have wl1 : M ≤ ws.length := by omega
      clear XL vl wl
      have b1 := alloc_below wo (.cells #[.slice A' v.r.length c', .int .i64 v.c] 44)
      obtain ⟨y0, y1⟩ := new_pair wo (.slice A' v.r.length c') (.int .i64 v.c) 44 rfl
      have ho4 := hok.alloc (.cells #[.slice A' v.r.length c', .int .i64 v.c] 44)
      have hb4 := hbr.trans (b1.mono hbr.size)
      have z4 : wo.heap.size < (wo.alloc (.cells #[.slice A' v.r.length c', .int .i64 v.c] 44)).heap.size := by simp
      generalize hw4 : wo.alloc (.cells #[.slice A' v.r.length c', .int .i64 v.c] 44) = w4 at *
      clear b1
      go_wp2
      clear hw4 hc1 hc2 y0
      go_loopw [23] (fun i wr => ∃ j : Nat, j ≤ v.r.length ∧ i = .int .i64 j ∧ OwnI wr w0.heap.size (w0.heap.size + 1) (.slice (some ⟨w0.heap.size, 0, none⟩) M M) (scV v.c v.r ws xs j) ∧ Only w0.heap.size (w0.heap.size + 1) w4 wr) (fun i _ => v.r.length - (intOf i).toNat)
      case atStart => exact ⟨0, Nat.zero_le _, rfl, ho4, Only.refl _ _ _⟩
      case round =>
        clear ho4
        obtain ⟨j, hj, rfl, hoj, hon⟩ := hrel
        by_cases hlj : j < v.r.length
        · have hb5 := hb4.trans (hon.toBelow (Nat.le_refl _) hb4.size)
          obtain ⟨br, orr, rfl, _, cr⟩ := hin.at_ hlj
          have d1 := cell_carry hb5 (cr j hlj)
          obtain ⟨bw, ow, rfl, _, cw⟩ := q0.at_ (show 0 < ws.length by omega)
          have d2 := cell_carry hb5 (cw j (by omega))
          have d3 := hon.cell y1 (by show ¬ (_ ≤ wo.heap.size ∧ wo.heap.size < _); omega)
          have va := VB.out j hlj
          have vx := VBD.out j (by omega) (ix v.r j).toNat
          have hw0 := W1.out.2 j
          have HS2 : Hid (scV v.c v.r ws xs (j + 1) = (scV v.c v.r ws xs j).set (ix v.r j).toNat (ix (scV v.c v.r ws xs j) (ix v.r j).toNat + v.c * ix ws j)) := rfl
          have pr := prod_100 fc hw0
          generalize scV v.c v.r ws xs j = cur at *
          generalize ix v.r j = a0 at *
          generalize ix ws j = wj at *
          obtain ⟨a, rfl⟩ : ∃ a : Nat, a0 = (a : Int) := ⟨a0.toNat, by omega⟩
          rw [Int.toNat_natCast] at *
          have d4 := hoj.cellAt a (by omega)
          have d5 := hoj.frozenAt a
          obtain ⟨ho6, hon6⟩ := hoj.stored a (ix cur a + v.c * wj)
          generalize ix cur a = y at *
          have ew : IntKind.i64.wrap (v.c * wj) = v.c * wj := IntWalk.i64_in _ (by omega)
          have ew2 : IntKind.i64.wrap (y + v.c * wj) = y + v.c * wj := IntWalk.i64_in _ (by omega)
          clear cr cw
          have i5 : j < ws.length := by omega
          have i6 : (j : Int) < (ws.length : Int) := by omega
          go_upto_region 8 with fail
          go_still_tail 15, (by kernel_rfl)
          change wpList _ _ _ _ _ wr.drew
          have d6 : wr.drew.frozen? _ = _ := d5
          clear d1 d2 d3 ew ew2
          go_wp2
          go_roundw
          case rel => exact ⟨j + 1, by omega, by go_num, by rw [HS2.out]; exact ho6, hon.trans (hon6.trans (Only.of_below (B := (wr.setCell ⟨w0.heap.size, a, none⟩ (.int .i64 (y + v.c * wj))).heap.size) ((Below.refl _ _).drew) (Nat.le_refl _)))⟩
          case measure => simp [intOf]; omega
        · obtain rfl : j = v.r.length := by omega
          rw [← HS.out] at hoj
          have hb5 := hb4.trans (hon.toBelow (Nat.le_refl _) hb4.size)
          have z5 := hon.size
          go_wp2
          go_roundw
          case rel => exact ⟨k + 1, by omega, by go_num, hoj, hb5, by omega⟩
          case measure => simp [intOf]; omega
    · obtain rfl : k = vs.length := by omega
      have hB5 := hB.trans (hbr.mono hB.size)
      go_wp2
      go_ret
      exact ⟨_, _, rfl, hok.mono z0 (by omega), hB5⟩
/-- the places of the greatest of the first k numbers, as the reference collects them -/
def b5 (xs : List Int) : Nat → List Int
  | 0 => []
  | k + 1 => if (b5 xs k).length = 0 ∨ ix xs (ix (b5 xs k) 0).toNat < ix xs k then [(k : Int)] else if ix xs k = ix xs (ix (b5 xs k) 0).toNat then b5 xs k ++ [(k : Int)] else b5 xs k
def gmTo (M : Int) (xs : List Int) : Nat → List Int
  | 0 => []
  | k + 1 => gmTo M xs k ++ (if ix xs k = M then [(k : Int)] else [])
theorem gmTo_great (xs : List Int) : ∀ k, greatTo xs k = gmTo (lmax xs) xs k
  | 0 => rfl
  | k + 1 => by rw [greatTo, gmTo, gmTo_great xs k]
theorem gmTo_none {M : Int} {xs : List Int} : ∀ {k : Nat}, (∀ j, j < k → ix xs j ≠ M) → gmTo M xs k = []
  | 0, _ => rfl
  | k + 1, h => by rw [gmTo, gmTo_none (fun j hj => h j (by omega)), if_neg (h k (by omega))]; rfl
theorem gmTo_head {M : Int} {xs : List Int} : ∀ {k : Nat}, (∃ j, j < k ∧ ix xs j = M) → 0 < (gmTo M xs k).length ∧ ∃ h : Nat, h < k ∧ ix (gmTo M xs k) 0 = (h : Int) ∧ ix xs h = M
  | 0, ⟨j, hj, _⟩ => by omega
  | k + 1, ⟨j, hj, e⟩ => by
    by_cases hk : ∃ j, j < k ∧ ix xs j = M
    · obtain ⟨h1, h, h2, h3, h4⟩ := gmTo_head hk
      rw [gmTo]
      refine ⟨by rw [List.length_append]; omega, h, by omega, ?_, h4⟩
      rw [ix_lt (by rw [List.length_append]; omega), List.getElem_append_left h1, ← ix_lt h1]
      exact h3
    · have hn : gmTo M xs k = [] := gmTo_none fun j hj h => hk ⟨j, hj, h⟩
      have : j = k := by
        by_cases e2 : j = k
        · exact e2
        · exact absurd ⟨j, by omega, e⟩ hk
      subst this
      rw [gmTo, hn, if_pos e]
      exact ⟨by simp, j, by omega, rfl, e⟩
theorem lmaxTo_at (xs : List Int) : ∀ k, ∃ j, j < k + 1 ∧ ix xs j = lmaxTo xs k
  | 0 => ⟨0, by omega, rfl⟩
  | k + 1 => by
    obtain ⟨j, hj, e⟩ := lmaxTo_at xs k
    rw [lmaxTo]
    by_cases h : lmaxTo xs k ≤ ix xs (k + 1)
    · exact ⟨k + 1, by omega, by omega⟩
    · exact ⟨j, by omega, by omega⟩
theorem b5_gm (xs : List Int) : ∀ k, b5 xs (k + 1) = gmTo (lmaxTo xs k) xs (k + 1)
  | 0 => by
    rw [b5, b5, if_pos (.inl rfl), gmTo, gmTo]
    have e : ix xs 0 = lmaxTo xs 0 := rfl
    rw [if_pos e]; rfl
  | k + 1 => by
    obtain ⟨h1, h, h2, h3, h4⟩ := gmTo_head (M := lmaxTo xs k) (lmaxTo_at xs k)
    have hge := lmaxTo_ge xs k
    rw [b5, b5_gm xs k, h3, Int.toNat_natCast, h4, lmaxTo]
    by_cases c1 : lmaxTo xs k < ix xs (k + 1)
    · rw [if_pos (.inr c1), show max (lmaxTo xs k) (ix xs (k + 1)) = ix xs (k + 1) by omega, gmTo, gmTo_none (fun j hj => by have := hge j (by omega); omega), if_pos rfl]; rfl
    · rw [if_neg (fun hh => hh.elim (fun h5 => by omega) c1), show max (lmaxTo xs k) (ix xs (k + 1)) = lmaxTo xs k by omega]
      have e : gmTo (lmaxTo xs k) xs (k + 1 + 1) = gmTo (lmaxTo xs k) xs (k + 1) ++ (if ix xs (k + 1) = lmaxTo xs k then [((k + 1 : Nat) : Int)] else []) := rfl
      rw [e]
      split
      · rfl
      · rw [List.append_nil]
theorem b5_greatest {xs : List Int} : b5 xs xs.length = greatest xs := by
  unfold greatest
  rcases Nat.eq_zero_or_pos xs.length with h | h
  · rw [h]; rfl
  · obtain ⟨n, hn⟩ : ∃ n, xs.length = n + 1 := ⟨xs.length - 1, by omega⟩
    rw [gmTo_great, hn, b5_gm]
    unfold lmax
    rw [hn, Nat.add_sub_cancel]
theorem b5_bd (xs : List Int) : ∀ k, (b5 xs k).length ≤ k ∧ ∀ x ∈ b5 xs k, 0 ≤ x ∧ x < (k : Int)
  | 0 => by simp [b5]
  | k + 1 => by
    obtain ⟨h1, h2⟩ := b5_bd xs k
    rw [b5]
    split
    · exact ⟨by simp, fun x hx => by rw [List.mem_singleton] at hx; omega⟩
    · split
      · refine ⟨by simp; omega, fun x hx => ?_⟩
        rw [List.mem_append, List.mem_singleton] at hx
        rcases hx with hx | hx
        · have := h2 x hx; omega
        · omega
      · exact ⟨by omega, fun x hx => by have := h2 x hx; omega⟩
set_option maxRecDepth 100000 in
set_option maxHeartbeats 1000000 in
theorem specBest (A : Option Addr) (n c : Nat) (xs : List Int) (w : World) (h : IntsAt w A n xs) (hn : n ≤ 1048576) :
    Calls Tryz.prog 132 #[.slice A n c] w fun e w' => ∃ A' c', e = .returned (.slice A' (greatest xs).length c') ∧ OwnI w' w.heap.size w'.heap.size (.slice A' (greatest xs).length c') (greatest xs) ∧ Below w.heap.size w w' := by
  obtain rfl := h.len
  rw [← b5_greatest]
  obtain ⟨T, hT⟩ : ∃ T, b5 xs xs.length = T := ⟨_, rfl⟩
  rw [hT]
  have HT := Lib.hid hT
  clear hT
  have b0 := alloc_below w (.cells #[] 3)
  have o0 := OwnI.empty w (lo := w.heap.size) (hi := (w.alloc (.cells #[] 3)).heap.size) (Nat.le_refl _) (by simp)
  go_enter Tryz.func132, Tryz.ntmps132
  go_wp2
  go_loopw [3, 4, 5, 9, 14, 30] (fun v _ _ i _ _ wr => ∃ (k : Nat) (A' : Option Addr) (c' : Nat), k ≤ xs.length ∧ i = .int .i64 k ∧ v = .slice A' (b5 xs k).length c' ∧ OwnI wr w.heap.size wr.heap.size (.slice A' (b5 xs k).length c') (b5 xs k) ∧ Below w.heap.size w wr) (fun _ _ _ i _ _ _ => xs.length - (intOf i).toNat)
  case atStart => exact ⟨0, _, 0, Nat.zero_le _, rfl, rfl, o0, b0⟩
  case round =>
    clear o0 b0
    obtain ⟨k, A1, c1, hk, rfl, rfl, ho, hb⟩ := hrel
    have z2 := hb.size
    have bd := b5_bd xs k
    by_cases hlt : k < xs.length
    · obtain ⟨b, o, rfl, _, hc⟩ := (h.below hb).at_ hlt
      have d := hc k hlt
      have HS : Hid (b5 xs (k + 1) = if (b5 xs k).length = 0 ∨ ix xs (ix (b5 xs k) 0).toNat < ix xs k then [(k : Int)] else if ix xs k = ix xs (ix (b5 xs k) 0).toNat then b5 xs k ++ [(k : Int)] else b5 xs k) := rfl
      obtain ⟨bl, bm⟩ := bd
      have i1 : (k : Int) < (xs.length : Int) := by omega
      by_cases h0 : (b5 xs k).length = 0
      · rw [if_pos (.inl h0)] at HS
        have e0 : (((b5 xs k).length : Int) == 0) = true := by rw [h0]; rfl
        have b3 := hb.trans ((alloc_below wr (.cells #[.int .i64 (k : Int)] 3)).mono z2)
        have o3 : OwnI (wr.alloc (.cells #[.int .i64 (k : Int)] 3)) w.heap.size (wr.alloc (.cells #[.int .i64 (k : Int)] 3)).heap.size (.slice (some ⟨wr.heap.size, 0, none⟩) 1 1) [(k : Int)] :=
          ⟨World.ownsRow_lit (e := 3) (size := 1) (base := w.heap.size) wr #[.int .i64 (k : Int)] 1 z2 (by unfold maxLen; omega) rfl, fun k e => by simp [Value.ownBlock] at e; simp; omega⟩
        generalize b5 xs k = ys at *
        clear h0 hc bl bm
        go_wp2
        go_roundw
        case rel => exact ⟨k + 1, _, 1, by omega, by go_num, by rw [HS.out]; rfl, by rw [HS.out]; exact o3, b3⟩
        case measure => simp [intOf]; omega
      · have hhd := bm _ (ix_mem (show 0 < (b5 xs k).length by omega))
        have e0 : (((b5 xs k).length : Int) == 0) = false := by rw [beq_eq_false_iff_ne]; omega
        obtain ⟨H, hH⟩ : ∃ H : Nat, ix (b5 xs k) 0 = (H : Int) := ⟨(ix (b5 xs k) 0).toNat, by omega⟩
        have dH := hc H (by omega)
        obtain ⟨g1, rfl, _, _⟩ := ho.head (by omega)
        have d0 := ho.cellAt 0 (by omega)
        have iH : (H : Int) < (xs.length : Int) := by omega
        have i0 : (0 : Int) < ((b5 xs k).length : Int) := by omega
        rw [hH, Int.toNat_natCast] at HS
        rw [hH] at d0
        clear hH hhd bm hc
        have L0 := Lib.hid h0
        generalize b5 xs k = ys at *
        clear h0
        by_cases hgt : ix xs H < ix xs k
        · rw [if_pos (.inr hgt)] at HS
          generalize ix xs H = X at *
          generalize ix xs k = Y at *
          have b3 := hb.trans ((alloc_below wr (.cells #[.int .i64 (k : Int)] 3)).mono z2)
          have o3 : OwnI (wr.alloc (.cells #[.int .i64 (k : Int)] 3)) w.heap.size (wr.alloc (.cells #[.int .i64 (k : Int)] 3)).heap.size (.slice (some ⟨wr.heap.size, 0, none⟩) 1 1) [(k : Int)] :=
            ⟨World.ownsRow_lit (e := 3) (size := 1) (base := w.heap.size) wr #[.int .i64 (k : Int)] 1 z2 (by unfold maxLen; omega) rfl, fun k e => by simp [Value.ownBlock] at e; simp; omega⟩
          go_wp2
          go_roundw
          case rel => exact ⟨k + 1, _, 1, by omega, by go_num, by rw [HS.out]; rfl, by rw [HS.out]; exact o3, b3⟩
          case measure => simp [intOf]; omega
        · rw [if_neg (fun hh => hh.elim L0.out hgt)] at HS
          by_cases heq : ix xs k = ix xs H
          · rw [if_pos heq] at HS
            rw [heq] at d
            generalize ix xs H = X at *
            clear heq hgt
            go_wp2_with (at_builtin; refine wpList_append_int _ rfl _ _ rfl (w.heap.size) _ (ys.length) _ _ _ rfl (ho.alloc _) ((k : Int)) _ 1 rfl (new_cell _ _ _ rfl) (by omega) (by simp; omega) (by simp; omega) ?_)
            intro A4 c4 w4 o4 on4
            have hb4 := (hb.alloc z2 (.cells #[.int .i64 (k : Int)] 3)).trans (on4.toBelow (Nat.le_refl _) (by simp; omega))
            have el : ys.length + 1 = (ys ++ [(k : Int)]).length := by simp
            rw [el] at o4
            have EL := Lib.hid el
            clear on4 ho el
            go_wp2
            go_roundw
            case rel => exact ⟨k + 1, A4, c4, by omega, by go_num, by rw [HS.out, ← EL.out], by rw [HS.out]; exact o4, hb4⟩
            case measure => simp [intOf]; omega
          · rw [if_neg heq] at HS
            have e3 : (ix xs k == ix xs H) = false := by rw [beq_eq_false_iff_ne]; exact heq
            generalize ix xs H = X at *
            generalize ix xs k = Y at *
            clear heq
            go_wp2
            go_roundw
            case rel => exact ⟨k + 1, _, c1, by omega, by go_num, by rw [HS.out], by rw [HS.out]; exact ho, hb⟩
            case measure => simp [intOf]; omega
    · obtain rfl : k = xs.length := by omega
      rw [HT.out] at ho ⊢
      clear bd
      go_wp2
      go_ret
      exact ⟨_, _, rfl, ho, hb⟩
end Go.Proofs.YtaanppihgldeaaaGreatDoor
namespace Go.Proofs.YtaanppihgldeaaaGreatDoor
set_option linter.unusedSimpArgs false
set_option linter.unusedVariables false
set_option linter.unusedVariables false
open Go.RowKit

theorem specScoreWinners (m : Int) (A : Option Addr) (n c : Nat) (vs : List Vt) (B : Option Addr) (l d : Nat) (ws : List Int) (w : World) (h : VotesAt w A n vs) (hn : n ≤ 1048576) (hx : ∀ v ∈ vs, v.r.length ≤ 1048576) (q : IntsAt w B l ws) (hl : l ≤ 1048576) :
    Calls Tryz.prog 128 #[.agg #[.int .i64 m, .slice A n c], .slice B l d] w fun e w' => ∃ A' c', e = .returned (.slice A' (greatest (scoresR m vs ws)).length c') ∧ OwnI w' w.heap.size w'.heap.size (.slice A' (greatest (scoresR m vs ws)).length c') (greatest (scoresR m vs ws)) ∧ Below w.heap.size w w' := by
  have q0 := q.below (alloc_below w (.cells #[.int .i64 m, .slice A n c] 24))
  obtain rfl := h.len
  have hB := alloc_below w (.cells #[.int .i64 m, .slice A vs.length c] 24)
  obtain ⟨x0, x1⟩ := PBox.new w m A vs.length c 24 rfl
  replace h := h.below hB
  generalize hw0 : w.alloc (.cells #[.int .i64 m, .slice A vs.length c] 24) = w0 at *
  have K := Lib.hid (specL05Ok m A vs.length c vs B l d ws _ h hn hx q0 hl)
  clear q
  cases hok : (profOk m vs && weightsOk m ws)
  · have e : scoresR m vs ws = [] := by unfold scoresR; rw [hok]; rfl
    have e2 : greatest (scoresR m vs ws) = [] := by rw [e]; rfl
    rw [e2]
    rw [hok] at K
    clear hx hok e e2
    go_enter Tryz.func128, Tryz.ntmps128
    go_wp2_with fail
    (with_reducible refine (K.out).mono ?_)
    rintro e w1 ⟨rfl, b1⟩
    replace hB := hB.trans (b1.mono hB.size)
    clear b1
    go_wp2
    go_ret
    exact ⟨_, _, rfl, OwnI.nil _ _ _, hB⟩
  · rw [hok] at K
    rw [Bool.and_eq_true] at hok
    have e : scoresR m vs ws = scores m vs ws := by unfold scoresR; rw [hok.1, hok.2]; rfl
    have sl := scoresR_len (m := m) (vs := vs) (ws := ws)
    rw [e] at sl ⊢
    have K2 := Lib.hid (fun W hW q => specScores m A vs.length c vs B l d ws W hW hok.1 hok.2 q)
    generalize scores m vs ws = ss at *
    clear hx hok e
    go_enter Tryz.func128, Tryz.ntmps128
    go_wp2_with fail
    (with_reducible refine (K.out).mono ?_)
    rintro e w1 ⟨rfl, b1⟩
    replace x0 := cell_carry b1 x0
    replace x1 := cell_carry b1 x1
    replace q0 := q0.below b1
    replace h := h.below b1
    replace hB := hB.trans (b1.mono hB.size)
    clear b1
    clear hw0 K
    go_wp2_with fail
    (with_reducible refine (K2.out _ h q0).mono ?_)
    rintro e w2 ⟨A2, c2, rfl, o2, b2⟩
    replace hB := hB.trans (b2.mono hB.size)
    clear b2
    go_wp2_with fail
    (with_reducible refine (specBest A2 _ c2 ss _ o2.at_ (by omega)).mono ?_)
    rintro e w3 ⟨A3, c3, rfl, o3, b3⟩
    have hz := hB.size
    go_wp2
    go_ret
    exact ⟨_, _, rfl, o3.mono hz (Nat.le_refl _), hB.trans (b3.mono hB.size)⟩
/-- 1 where a beats b -/
def btF (vs : List Vt) (a b : Nat) : Int := if beatsP vs (a : Int) (b : Int) then 1 else 0
theorem btF_bd (vs : List Vt) (a b : Nat) : 0 ≤ btF vs a b ∧ btF vs a b ≤ 1 := by unfold btF; split <;> omega
theorem cop_bt (vs : List Vt) (a b : Nat) : copF vs a b = btF vs a b - btF vs b a := by
  unfold copF btF beatsP cmpI marginP
  simp only [decide_eq_true_eq]
  generalize pairP vs (a : Int) (b : Int) = x
  generalize pairP vs (b : Int) (a : Int) = y
  by_cases h1 : x < y
  · have a1 : x - y < 0 := by omega
    have a2 : ¬ 0 < x - y := by omega
    have a3 : 0 < y - x := by omega
    simp only [a1, a2, a3, if_true, if_false]; rfl
  · by_cases h2 : y < x
    · have a1 : ¬ x - y < 0 := by omega
      have a2 : 0 < x - y := by omega
      have a3 : ¬ 0 < y - x := by omega
      simp only [a1, a2, a3, if_true, if_false]; rfl
    · have a1 : ¬ x - y < 0 := by omega
      have a2 : ¬ 0 < x - y := by omega
      have a3 : ¬ 0 < y - x := by omega
      simp only [a1, a2, a3, if_false]; rfl
theorem sumN_sub (f g : Nat → Int) : ∀ k, sumN (fun i => f i - g i) k = sumN f k - sumN g k
  | 0 => rfl
  | k + 1 => by rw [sumN, sumN, sumN, sumN_sub f g k]; omega
theorem sumN_congr {f g : Nat → Int} : ∀ {k : Nat}, (∀ i, i < k → f i = g i) → sumN f k = sumN g k
  | 0, _ => rfl
  | k + 1, h => by rw [sumN, sumN, sumN_congr (fun i hi => h i (by omega)), h k (by omega)]
/-- how many the first ones beat, while row i is under way up to j -/
def wonS (vs : List Vt) (M i j a : Nat) : Int := if a < i then sumN (btF vs a) M else if a = i then sumN (btF vs i) j else 0
def lostS (vs : List Vt) (i j b : Nat) : Int := sumN (fun a => btF vs a b) i + (if b < j then btF vs i b else 0)
theorem wonS_next {vs : List Vt} {M i : Nat} : lfn (wonS vs M i M) M = lfn (wonS vs M (i + 1) 0) M := lfn_ext fun a _ => by
  unfold wonS
  by_cases e : a = i
  · subst e; rw [if_neg (by omega), if_pos rfl, if_pos (by omega)]
  · by_cases e2 : a < i
    · rw [if_pos e2, if_pos (by omega)]
    · rw [if_neg e2, if_neg e, if_neg (by omega)]; split <;> rfl
theorem lostS_next {vs : List Vt} {M i : Nat} : lfn (lostS vs i M) M = lfn (lostS vs (i + 1) 0) M := lfn_ext fun b hb => by
  unfold lostS
  rw [if_pos hb, if_neg (by omega), sumN]; omega
theorem wonS_yes {vs : List Vt} {M i j : Nat} (hi : i < M) : (lfn (wonS vs M i j) M).set i (ix (lfn (wonS vs M i j) M) i + btF vs i j) = lfn (wonS vs M i (j + 1)) M := by
  rw [lfn_set _ hi]
  refine lfn_ext fun a _ => ?_
  rw [lfn_ix hi]
  unfold wonS
  by_cases e : a = i
  · subst e; rw [if_pos rfl, if_neg (by omega), if_pos rfl, if_neg (by omega), if_pos rfl, sumN]
  · rw [if_neg e, if_neg e, if_neg e]
theorem wonS_no {vs : List Vt} {M i j : Nat} (h : btF vs i j = 0) : lfn (wonS vs M i j) M = lfn (wonS vs M i (j + 1)) M := lfn_ext fun a _ => by
  unfold wonS
  rw [sumN, h, Int.add_zero]
theorem lostS_yes {vs : List Vt} {M i j : Nat} (hj : j < M) : (lfn (lostS vs i j) M).set j (ix (lfn (lostS vs i j) M) j + btF vs i j) = lfn (lostS vs i (j + 1)) M := by
  rw [lfn_set _ hj]
  refine lfn_ext fun b _ => ?_
  rw [lfn_ix hj]
  unfold lostS
  by_cases e : b = j
  · subst e; rw [if_pos rfl, if_neg (by omega), if_pos (by omega)]; omega
  · rw [if_neg e]
    by_cases e2 : b < j
    · rw [if_pos e2, if_pos (by omega)]
    · rw [if_neg e2, if_neg (by omega)]
theorem lostS_no {vs : List Vt} {M i j : Nat} (h : btF vs i j = 0) : lfn (lostS vs i j) M = lfn (lostS vs i (j + 1)) M := lfn_ext fun b _ => by
  unfold lostS
  by_cases e : b = j
  · subst e; rw [if_neg (by omega), if_pos (by omega), h]
  · by_cases e2 : b < j
    · rw [if_pos e2, if_pos (by omega)]
    · rw [if_neg e2, if_neg (by omega)]
theorem wonS_bd {vs : List Vt} {M i j a : Nat} (hj : j ≤ M) : 0 ≤ wonS vs M i j a ∧ wonS vs M i j a ≤ M := by
  unfold wonS
  have h1 := sumN_bd (lo := 0) (hi := 1) (fun b => btF_bd vs a b) M
  have h2 := sumN_bd (lo := 0) (hi := 1) (fun b => btF_bd vs i b) j
  split
  · omega
  · split <;> omega
theorem lostS_bd {vs : List Vt} {i j b : Nat} : 0 ≤ lostS vs i j b ∧ lostS vs i j b ≤ i + 1 := by
  unfold lostS
  have h1 := sumN_bd (lo := 0) (hi := 1) (fun a => btF_bd vs a b) i
  have h2 := btF_bd vs i b
  split <;> omega
set_option maxRecDepth 100000 in
set_option maxHeartbeats 1000000 in
theorem specSums (M : Nat) (A : Option Addr) (n c : Nat) (vs : List Vt) (w : World) (h : VotesAt w A n vs) (F : PF (M : Int) vs) :
    Calls Tryz.prog 181 #[.agg #[.int .i64 (M : Int), .slice A n c]] w fun e w' => ∃ g1 g2, e = .returned (.tuple #[.slice (some ⟨g1, 0, none⟩) M M, .slice (some ⟨g2, 0, none⟩) M M]) ∧ OwnI w' g1 (g1 + 1) (.slice (some ⟨g1, 0, none⟩) M M) (lfn (fun a => sumN (btF vs a) M) M) ∧ OwnI w' g2 (g2 + 1) (.slice (some ⟨g2, 0, none⟩) M M) (lfn (fun b => sumN (fun a => btF vs a b) M) M) ∧ w.heap.size ≤ g1 ∧ w.heap.size ≤ g2 ∧ Below w.heap.size w w' := by
  obtain ⟨m, hm⟩ : ∃ m : Int, m = (M : Int) := ⟨_, rfl⟩
  rw [← hm] at F ⊢
  obtain rfl := h.len
  have hB := alloc_below w (.cells #[.int .i64 m, .slice A vs.length c] 24)
  obtain ⟨x0, x1⟩ := PBox.new w m A vs.length c 24 rfl
  replace h := h.below hB
  generalize hw0 : w.alloc (.cells #[.int .i64 m, .slice A vs.length c] 24) = w0 at *
  have M5 : M ≤ 5 := by have := F.m5; omega
  subst hm
  go_enter Tryz.func181, Tryz.ntmps181
  go_wp2_with ((with_reducible refine wpList_make_ints _ rfl _ _ rfl M rfl rfl (by omega) ?_))
  intro w1 ho1 b1 z1
  have x0' := cell_carry b1 x0
  have zz : w0.heap.size < w1.heap.size := by omega
  clear z1
  go_wp2_with ((with_reducible refine wpList_make_ints _ rfl _ _ rfl M rfl rfl (by omega) ?_))
  intro w2 ho2 b2 z2
  have s0 := hB.size
  have ho1' := ho1.belowW b2
  have e1 : List.replicate M (0 : Int) = lfn (wonS vs M 0 0) M := by rw [lfn_rep]; exact lfn_ext fun a _ => by unfold wonS; rw [if_neg (by omega)]; split <;> rfl
  have e2 : List.replicate M (0 : Int) = lfn (lostS vs 0 0) M := by rw [lfn_rep]; exact lfn_ext fun a _ => by unfold lostS; rw [if_neg (by omega)]; rfl
  rw [e1] at ho1'
  rw [e2] at ho2
  have b12 := b1.trans (b2.mono b1.size)
  have zz2 : w1.heap.size < w2.heap.size := by omega
  clear ho1 b1 b2 z2 e1 e2 x0' hw0
  go_wp2
  go_loopw [6, 16] (fun _ i wr => ∃ k : Nat, k ≤ M ∧ i = .int .i64 k ∧ OwnI wr w0.heap.size (w0.heap.size + 1) (.slice (some ⟨w0.heap.size, 0, none⟩) M M) (lfn (wonS vs M k 0) M) ∧ OwnI wr w1.heap.size (w1.heap.size + 1) (.slice (some ⟨w1.heap.size, 0, none⟩) M M) (lfn (lostS vs k 0) M) ∧ Below w0.heap.size w0 wr ∧ w1.heap.size < wr.heap.size) (fun _ i _ => M - (intOf i).toNat)
  case atStart => exact ⟨0, Nat.zero_le _, rfl, ho1', ho2, b12, zz2⟩
  case round =>
    clear ho1' ho2 b12 zz2
    obtain ⟨wo, rfl⟩ : ∃ wo, wo = wr := ⟨_, rfl⟩
    obtain ⟨k, hk, rfl, h1, h2, hb, zr⟩ := hrel
    by_cases hlt : k < M
    · go_wp2
      go_loopw [7, 21] (fun _ i wr => ∃ j : Nat, j ≤ M ∧ i = .int .i64 j ∧ OwnI wr w0.heap.size (w0.heap.size + 1) (.slice (some ⟨w0.heap.size, 0, none⟩) M M) (lfn (wonS vs M k j) M) ∧ OwnI wr w1.heap.size (w1.heap.size + 1) (.slice (some ⟨w1.heap.size, 0, none⟩) M M) (lfn (lostS vs k j) M) ∧ Below w0.heap.size w0 wr ∧ w1.heap.size < wr.heap.size) (fun _ i _ => M - (intOf i).toNat)
      case atStart => exact ⟨0, Nat.zero_le _, rfl, h1, h2, hb, zr⟩
      case round =>
        clear h1 h2 hb zr
        obtain ⟨j, hj, rfl, h1, h2, hb, zr⟩ := hrel
        by_cases hlj : j < M
        · have x0' := cell_carry hb x0
          have x1' := cell_carry hb x1
          have KB := Lib.hid (specBeats (M : Int) A vs.length c vs (k : Int) (j : Int) wr (h.below hb) F)
          have HBT : Hid (btF vs k j = if beatsP vs (k : Int) (j : Int) then 1 else 0) := rfl
          have w1' := wonS_bd (vs := vs) (i := k) (a := k) hj
          have l1' := lostS_bd (vs := vs) (i := k) (j := j) (b := j)
          generalize beatsP vs (k : Int) (j : Int) = q at *
          go_wp2_with fail
          (with_reducible refine KB.out.mono ?_)
          rintro e w5 ⟨rfl, b5⟩
          have z5 := b5.size
          replace h1 := h1.belowW b5
          replace h2 := h2.belowW b5
          replace hb := hb.trans (b5.mono hb.size)
          clear b5 KB x0' x1'
          cases q
          · rw [if_neg (by simp)] at HBT
            rw [wonS_no HBT.out] at h1
            rw [lostS_no HBT.out] at h2
            go_wp2
            go_roundw
            case rel => exact ⟨j + 1, by omega, by go_num, h1, h2, hb, by omega⟩
            case measure => simp [intOf]; omega
          · rw [if_pos rfl] at HBT
            have c1 := h1.cellAt k hlt
            have f1 := h1.frozenAt k
            have c2 := h2.cellAt j hlj
            have f2 := h2.frozenAt j
            have e1 : ix (lfn (wonS vs M k j) M) k = wonS vs M k j k := lfn_ix hlt
            have e2 : ix (lfn (lostS vs k j) M) j = lostS vs k j j := lfn_ix hlj
            obtain ⟨o1, n1⟩ := h1.stored k (ix (lfn (wonS vs M k j) M) k + btF vs k j)
            rw [wonS_yes hlt, HBT.out, e1] at o1
            rw [HBT.out, e1] at n1
            rw [e1] at c1
            rw [e2] at c2
            generalize wonS vs M k j k = X at *
            have h2b := h2.only n1 (.inr (by omega))
            obtain ⟨o2, n2⟩ := h2b.stored j (ix (lfn (lostS vs k j) M) j + btF vs k j)
            rw [lostS_yes hlj, HBT.out, e2] at o2
            rw [HBT.out, e2] at n2
            generalize lostS vs k j j = Y at *
            have o1b := o1.only n2 (.inl (by omega))
            have hb2 := hb.trans ((n1.toBelow (Nat.le_refl _) hb.size).trans (n2.toBelow (by omega) (by rw [World.size_setCell]; exact hb.size)))
            have i1 : (k : Int) < (M : Int) := by omega
            have i2 : (j : Int) < (M : Int) := by omega
            have c2b := n1.cell c2 (by show ¬ (w0.heap.size ≤ w1.heap.size ∧ w1.heap.size < w0.heap.size + 1); omega)
            have O1 := Lib.hid o1b
            have O2 := Lib.hid o2
            have HB2 := Lib.hid hb2
            clear h1 h2 h2b o1 o2 o1b n1 n2 e1 e2 hb2
            go_wp2
            go_roundw
            case rel => exact ⟨j + 1, by omega, by go_num, O1.out, O2.out, HB2.out, by rw [World.size_setCell, World.size_setCell]; omega⟩
            case measure => simp [intOf]; omega
        · obtain rfl : j = M := by omega
          rw [wonS_next] at h1
          rw [lostS_next] at h2
          go_wp2
          go_roundw
          case rel => exact ⟨k + 1, by omega, by go_num, h1, h2, hb, zr⟩
          case measure => simp [intOf]; omega
    · obtain rfl : k = M := by omega
      have e1 : lfn (wonS vs k k 0) k = lfn (fun a => sumN (btF vs a) k) k := lfn_ext fun a ha => by unfold wonS; rw [if_pos ha]
      have e2 : lfn (lostS vs k 0) k = lfn (fun b => sumN (fun a => btF vs a b) k) k := lfn_ext fun b _ => by unfold lostS; rw [if_neg (by omega), Int.add_zero]
      rw [e1] at h1
      rw [e2] at h2
      clear e1 e2
      have hB5 := hB.trans (hb.mono hB.size)
      go_wp2
      go_ret2
      exact ⟨_, _, rfl, h1, h2, s0, by omega, hB5⟩
end Go.Proofs.YtaanppihgldeaaaGreatDoor
