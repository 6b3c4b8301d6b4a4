/- Profiles, the reference's side: ProfileOk, l04Voters, l04Pair, l06Beats, MarginOf. Weights and scores, the reference's side. -/
import Derived.Test.YtcjnjnegaoihoaaGreatW03
import Derived.Test.YtcjnjnegaoihoaaGreatW08
import Derived.Test.YtcjnjnegaoihoaaGreatW09
namespace Go.Proofs.YtcjnjnegaoihoaaGreat
set_option linter.unusedSimpArgs false
set_option linter.unusedVariables false
set_option linter.unusedVariables false
open Go.RowKit

set_option maxRecDepth 100000 in
set_option maxHeartbeats 1000000 in
theorem specProfileOk (m : Int) (A : Option Addr) (n c : Nat) (vs : List Vt) (w : World) (h : VotesAt w A n vs) (hn : n ≤ 1048576) (hx : ∀ v ∈ vs, v.r.length ≤ 1048576) :
    Calls Tryz.prog 37 #[.agg #[.int .i64 m, .slice A n c]] w fun e w' => e = .returned (.bool (profOk m vs)) ∧ Below w.heap.size w w' := by
  obtain rfl := h.len
  have hB := alloc_below w (.cells #[.int .i64 m, .slice A vs.length c] 31)
  obtain ⟨x0, x1⟩ := PBox.new w m A vs.length c 31 rfl
  replace h := h.below hB
  generalize hw0 : w.alloc (.cells #[.int .i64 m, .slice A vs.length c] 31) = w0 at *
  have HX := Lib.hid hx
  unfold profOk
  clear hx
  cases hm : inB m 1 5
  · go_enter Tryz.func37, Tryz.ntmps37
    go_wp2_with fail
    (with_reducible refine (l01In_any _ _ _ _).mono ?_)
    rintro e w1 ⟨rfl, rfl⟩
    rw [hm]
    go_wp2
    go_ret
    exact ⟨by simp, hB⟩
  by_cases hl : vs.length ≤ 24
  case neg =>
    rw [decide_eq_false hl]
    go_enter Tryz.func37, Tryz.ntmps37
    go_wp2_with fail
    (with_reducible refine (l01In_any _ _ _ _).mono ?_)
    rintro e w1 ⟨rfl, rfl⟩
    rw [hm]
    go_wp2
    go_ret
    exact ⟨by simp, hB⟩
  rw [decide_eq_true hl]
  obtain ⟨T, hT⟩ : ∃ T, vs.all (voteOk m) = T := ⟨_, rfl⟩
  have HT := Lib.hid hT
  rw [hT]
  clear hT
  go_enter Tryz.func37, Tryz.ntmps37
  go_wp2_with fail
  (with_reducible refine (l01In_any _ _ _ _).mono ?_)
  rintro e w1 ⟨rfl, rfl⟩
  rw [hm]
  clear hw0
  have x0' := x0
  go_wp2
  go_loopw [18] (fun i wr => ∃ k : Nat, k ≤ vs.length ∧ i = .int .i64 k ∧ (vs.take k).all (voteOk m) = true ∧ Below w0.heap.size w0 wr) (fun i _ => vs.length - (intOf i).toNat)
  case atStart => exact ⟨0, Nat.zero_le _, rfl, rfl, Below.refl _ _⟩
  case round =>
    obtain ⟨k, hk, rfl, hall, hb⟩ := hrel
    have HA := Lib.hid hall
    clear hall
    by_cases hlt : k < vs.length
    · obtain ⟨b, o, A', c', rfl, hbl, hc1, hc2, hcc, hin⟩ := (h.below hb).at_ hlt
      have hxv := HX.out _ (vx_mem hlt)
      have HTK := Lib.hid (take_vx hlt)
      have HM := Lib.hid (vx_mem hlt)
      generalize vx vs k = v at *
      have b1 := alloc_below wr (.cells #[.slice A' v.r.length c', .int .i64 v.c] 46)
      obtain ⟨y0, y1⟩ := new_pair wr (.slice A' v.r.length c') (.int .i64 v.c) 46 rfl
      have x0' := cell_carry (hb.trans (b1.mono hb.size)) x0
      have hi2 := hin.below b1
      have hB2 := hb.trans (b1.mono hb.size)
      generalize hw3 : wr.alloc (.cells #[.slice A' v.r.length c', .int .i64 v.c] 46) = w3 at *
      have KR := Lib.hid (specRankingOk m A' v.r.length c' v.r w3 hi2 hxv hcc)
      have HV : Hid (voteOk m v = (rankOk m v.r && inB v.c 1 1000)) := rfl
      clear b1 hi2 hin hb
      generalize hrk : rankOk m v.r = q at *
      cases q
      · have HF : Hid (false = T) := by
          show _ = _
          rw [← HT.out]
          refine (List.all_eq_false.2 ⟨v, HM.out, ?_⟩).symm
          rw [HV.out]; simp
        clear hrk
        go_wp2_with fail
        (with_reducible refine KR.out.mono ?_)
        rintro e w4 ⟨rfl, b4⟩
        have hB4 := hB.trans ((hB2.trans (b4.mono hB2.size)).mono hB.size)
        clear b4
        go_wp2
        go_ret
        exact ⟨ret_b (by rw [← HF.out]; simp), hB4⟩
      · clear hrk
        go_wp2_with fail
        (with_reducible refine KR.out.mono ?_)
        rintro e w4 ⟨rfl, b4⟩
        replace hB2 := hB2.trans (b4.mono hB2.size)
        replace y1 := cell_carry b4 y1
        clear b4
        go_wp2_with fail
        (with_reducible refine (l01In_any _ _ _ _).mono ?_)
        rintro e w5 ⟨rfl, rfl⟩
        cases hv : inB v.c 1 1000
        · have HF : Hid (false = T) := by
            show _ = _
            rw [← HT.out]
            refine (List.all_eq_false.2 ⟨v, HM.out, ?_⟩).symm
            rw [HV.out, hv]; simp
          have hB4 := hB.trans (hB2.mono hB.size)
          go_wp2
          go_ret
          exact ⟨ret_b (by rw [← HF.out]; simp), hB4⟩
        · have HN : Hid ((vs.take (k + 1)).all (voteOk m) = true) := by
            show _ = _
            rw [HTK.out, List.all_append, HA.out, List.all_cons, HV.out, hv]; rfl
          go_wp2
          go_roundw
          case rel => exact ⟨k + 1, by omega, by go_num, HN.out, hB2⟩
          case measure => simp [intOf]; omega
    · obtain rfl : k = vs.length := by omega
      have HF : Hid (true = T) := by
        show _ = _
        rw [← HT.out, ← HA.out, List.take_length]
      have hB2 := hB.trans (hb.mono hB.size)
      go_wp2
      go_ret
      exact ⟨ret_b (by rw [← HF.out]; simp), hB2⟩
set_option maxHeartbeats 400000 in
theorem specVoters (m : Int) (A : Option Addr) (n c : Nat) (vs : List Vt) (w : World) (h : VotesAt w A n vs) (hn : n ≤ 24) (hc : ∀ v ∈ vs, 0 ≤ v.c ∧ v.c ≤ 1000) :
    Calls Tryz.prog 132 #[.agg #[.int .i64 m, .slice A n c]] w fun e w' => e = .returned (.int .i64 (votersP vs)) ∧ Below w.heap.size w w' := by
  obtain rfl := h.len
  have hB := alloc_below w (.cells #[.int .i64 m, .slice A vs.length c] 31)
  obtain ⟨x0, x1⟩ := PBox.new w m A vs.length c 31 rfl
  replace h := h.below hB
  generalize hw0 : w.alloc (.cells #[.int .i64 m, .slice A vs.length c] 31) = w0 at *
  have HC := Lib.hid hc
  clear hc
  unfold votersP vts
  go_enter Tryz.func132, Tryz.ntmps132
  go_wp2
  clear hw0 x0 x1
  go_loopw [3, 9] (fun s i wr => ∃ k : Nat, k ≤ vs.length ∧ i = .int .i64 k ∧ s = .int .i64 (vtsTo (fun _ => true) vs k) ∧ Below w0.heap.size w0 wr) (fun _ i _ => vs.length - (intOf i).toNat)
  case atStart => exact ⟨0, Nat.zero_le _, rfl, rfl, Below.refl _ _⟩
  case round =>
    obtain ⟨k, hk, rfl, rfl, hb⟩ := hrel
    by_cases hlt : k < vs.length
    · obtain ⟨b, o, A', c', rfl, hbl, hc1, hc2, hcc, hin⟩ := (h.below hb).at_ hlt
      have bd := vtsTo_bd (f := fun _ => true) HC.out k (by omega)
      have vb := HC.out _ (vx_mem hlt)
      have HS : Hid (vtsTo (fun _ => true) vs (k + 1) = vtsTo (fun _ => true) vs k + (vx vs k).c) := rfl
      generalize vx vs k = v at *
      generalize vtsTo (fun _ => true) vs k = s at *
      have b1 := alloc_below wr (.cells #[.slice A' v.r.length c', .int .i64 v.c] 46)
      obtain ⟨y0, y1⟩ := new_pair wr (.slice A' v.r.length c') (.int .i64 v.c) 46 rfl
      have hB2 := hb.trans (b1.mono hb.size)
      clear b1 hin hb
      generalize hw3 : wr.alloc (.cells #[.slice A' v.r.length c', .int .i64 v.c] 46) = w3 at *
      go_wp2
      go_roundw
      case rel => exact ⟨k + 1, by omega, by go_num, by rw [HS.out], hB2⟩
      case measure => simp [intOf]; omega
    · obtain rfl : k = vs.length := by omega
      have hB2 := hB.trans (hb.mono hB.size)
      go_wp2
      go_ret
      exact ⟨rfl, hB2⟩
set_option maxHeartbeats 400000 in
theorem specPair (m : Int) (A : Option Addr) (n c : Nat) (vs : List Vt) (a b : Int) (w : World) (h : VotesAt w A n vs) (F : PF m vs) :
    Calls Tryz.prog 133 #[.agg #[.int .i64 m, .slice A n c], .int .i64 a, .int .i64 b] w fun e w' => e = .returned (.int .i64 (pairP vs a b)) ∧ Below w.heap.size w w' := by
  obtain rfl := h.len
  have hB := alloc_below w (.cells #[.int .i64 m, .slice A vs.length c] 31)
  obtain ⟨x0, x1⟩ := PBox.new w m A vs.length c 31 rfl
  replace h := h.below hB
  generalize hw0 : w.alloc (.cells #[.int .i64 m, .slice A vs.length c] 31) = w0 at *
  have n24 := F.n
  unfold pairP vts
  go_enter Tryz.func133, Tryz.ntmps133
  go_wp2
  clear hw0 x0 x1
  go_loopw [7, 13] (fun s i wr => ∃ k : Nat, k ≤ vs.length ∧ i = .int .i64 k ∧ s = .int .i64 (vtsTo (fun r => pref r a b) vs k) ∧ Below w0.heap.size w0 wr) (fun _ i _ => vs.length - (intOf i).toNat)
  case atStart => exact ⟨0, Nat.zero_le _, rfl, rfl, Below.refl _ _⟩
  case round =>
    obtain ⟨k, hk, rfl, rfl, hb⟩ := hrel
    by_cases hlt : k < vs.length
    · obtain ⟨bb, o, A', c', rfl, hbl, hc1, hc2, hcc, hin⟩ := (h.below hb).at_ hlt
      have bd := vtsTo_bd (f := fun r => pref r a b) F.c k (by omega)
      have vb := F.c _ (vx_mem hlt)
      have vl : (vx vs k).r.length ≤ 5 := by have := F.l _ (vx_mem hlt); have := F.m5; omega
      have HS : Hid (vtsTo (fun r => pref r a b) vs (k + 1) = vtsTo (fun r => pref r a b) vs k + (if pref (vx vs k).r a b then (vx vs k).c else 0)) := rfl
      generalize vx vs k = v at *
      generalize vtsTo (fun r => pref r a b) vs k = s at *
      have b1 := alloc_below wr (.cells #[.slice A' v.r.length c', .int .i64 v.c] 46)
      obtain ⟨y0, y1⟩ := new_pair wr (.slice A' v.r.length c') (.int .i64 v.c) 46 rfl
      have hB2 := hb.trans (b1.mono hb.size)
      have K := Lib.hid (specPrefers A' v.r.length c' v.r a b _ (hin.below b1) (by omega))
      clear b1 hin hb
      generalize hw3 : wr.alloc (.cells #[.slice A' v.r.length c', .int .i64 v.c] 46) = w3 at *
      go_wp2_with fail
      (with_reducible refine K.out.mono ?_)
      rintro e w4 ⟨rfl, rfl⟩
      cases hf : pref v.r a b
      · rw [hf, if_neg (by simp), Int.add_zero] at HS
        go_wp2
        go_roundw
        case rel => exact ⟨k + 1, by omega, by go_num, by rw [HS.out], hB2⟩
        case measure => simp [intOf]; omega
      · rw [hf, if_pos rfl] at HS
        go_wp2
        go_roundw
        case rel => exact ⟨k + 1, by omega, by go_num, by rw [HS.out], hB2⟩
        case measure => simp [intOf]; omega
    · obtain rfl : k = vs.length := by omega
      have hB2 := hB.trans (hb.mono hB.size)
      go_wp2
      go_ret
      exact ⟨rfl, hB2⟩
theorem beats_gt (vs : List Vt) (a b : Int) : beatsP vs a b = decide (pairP vs b a < pairP vs a b) := by unfold beatsP marginP; rw [decide_eq_decide]; omega
theorem specBeats (m : Int) (A : Option Addr) (n c : Nat) (vs : List Vt) (a b : Int) (w : World) (h : VotesAt w A n vs) (F : PF m vs) :
    Calls Tryz.prog 135 #[.agg #[.int .i64 m, .slice A n c], .int .i64 a, .int .i64 b] w fun e w' => e = .returned (.bool (beatsP vs a b)) ∧ Below w.heap.size w w' := by
  obtain rfl := h.len
  have hB := alloc_below w (.cells #[.int .i64 m, .slice A vs.length c] 31)
  obtain ⟨x0, x1⟩ := PBox.new w m A vs.length c 31 rfl
  replace h := h.below hB
  generalize hw0 : w.alloc (.cells #[.int .i64 m, .slice A vs.length c] 31) = w0 at *
  rw [beats_gt]
  have K1 : Hid (∀ L : Later w0, Calls Tryz.prog 133 #[.agg #[.int .i64 m, .slice A vs.length c], .int .i64 a, .int .i64 b] L.W fun e W' => e = .returned (.int .i64 (pairP vs a b)) ∧ ∃ L' : Later w0, W' = L'.W) :=
    fun L => L.call (specPair m A _ c vs a b L.W (h.below L.h) F)
  have K2 : Hid (∀ L : Later w0, Calls Tryz.prog 133 #[.agg #[.int .i64 m, .slice A vs.length c], .int .i64 b, .int .i64 a] L.W fun e W' => e = .returned (.int .i64 (pairP vs b a)) ∧ ∃ L' : Later w0, W' = L'.W) :=
    fun L => L.call (specPair m A _ c vs b a L.W (h.below L.h) F)
  have q0 : ∀ L : Later w0, L.W.cell? ⟨w.heap.size, 0, none⟩ = some (.int .i64 m) := fun L => L.cell x0
  have q1 : ∀ L : Later w0, L.W.cell? ⟨w.heap.size, 1, none⟩ = some (.slice A vs.length c) := fun L => L.cell x1
  generalize pairP vs a b = pa at *
  generalize pairP vs b a = pb at *
  go_enter Tryz.func135, Tryz.ntmps135
  go_wp2
  clear hw0
  refine wp_region_later (by kernel_rfl) (by kernel_rfl) ?_
  repeat (go_big_quiet_step (first | (with_reducible exact K1.out _) | (with_reducible exact K2.out _)))
  (refine wpQuiet_nil ?_; rintro _ ⟨⟨wl, hbl⟩, rfl⟩)
  go_wp2
  go_ret
  exact ⟨rfl, hB.trans (hbl.mono hB.size)⟩
theorem specCandidate (m : Int) (A : Option Addr) (n c : Nat) (a : Int) (w : World) (hm : 1 ≤ m ∧ m ≤ 5) (hn : n ≤ 1048576) (h : ∃ vs, VotesAt w A n vs) :
    Calls Tryz.prog 188 #[.agg #[.int .i64 m, .slice A n c], .int .i64 a] w fun e w' => e = .returned (.bool (inB a 0 (m - 1))) ∧ Below w.heap.size w w' := by
  obtain ⟨vs, h⟩ := h
  obtain rfl := h.len
  have hB := alloc_below w (.cells #[.int .i64 m, .slice A vs.length c] 31)
  obtain ⟨x0, x1⟩ := PBox.new w m A vs.length c 31 rfl
  replace h := h.below hB
  generalize hw0 : w.alloc (.cells #[.int .i64 m, .slice A vs.length c] 31) = w0 at *
  have ew : IntKind.i64.wrap (m - 1) = m - 1 := IntWalk.i64_in _ (by omega)
  go_enter Tryz.func188, Tryz.ntmps188
  go_wp2_with fail
  (with_reducible refine (l01In_any _ _ _ _).mono ?_)
  rintro e w1 ⟨rfl, rfl⟩
  go_wp2
  go_ret
  exact ⟨rfl, hB⟩
set_option maxHeartbeats 400000 in
theorem specMarginOf (m : Int) (A : Option Addr) (n c : Nat) (vs : List Vt) (a b : Int) (w : World) (h : VotesAt w A n vs) (hp : profOk m vs = true) (ha : inB a 0 (m - 1) = true) (hb : inB b 0 (m - 1) = true) :
    Calls Tryz.prog 181 #[.agg #[.int .i64 m, .slice A n c], .int .i64 a, .int .i64 b] w fun e w' => e = .returned (.int .i64 (marginP vs a b)) ∧ Below w.heap.size w w' := by
  obtain rfl := h.len
  have hB := alloc_below w (.cells #[.int .i64 m, .slice A vs.length c] 31)
  obtain ⟨x0, x1⟩ := PBox.new w m A vs.length c 31 rfl
  replace h := h.below hB
  generalize hw0 : w.alloc (.cells #[.int .i64 m, .slice A vs.length c] 31) = w0 at *
  have F := pf_of hp
  have n24 := F.n
  have K := Lib.hid (specProfileOk m A vs.length c vs w0 h (by omega) (fun v hv => by have := F.l v hv; have := F.m5; omega))
  rw [hp] at K
  have KA := Lib.hid (fun x W (hW : VotesAt W A vs.length vs) => specCandidate m A vs.length c x W ⟨F.m1, F.m5⟩ (by omega) ⟨vs, hW⟩)
  have HA := Lib.hid ha
  have HB := Lib.hid hb
  clear hp ha hb
  unfold marginP
  have b1 := pair_bd F a b
  have b2 := pair_bd F b a
  go_enter Tryz.func181, Tryz.ntmps181
  go_wp2_with fail
  (with_reducible refine (K.out).mono ?_)
  rintro e w1 ⟨rfl, b1⟩
  replace x0 := cell_carry b1 x0
  replace x1 := cell_carry b1 x1
  replace h := h.below b1
  replace hB := hB.trans (b1.mono hB.size)
  clear b1
  go_wp2_with fail
  (with_reducible refine (KA.out a _ h).mono ?_)
  rintro e w2 ⟨rfl, b3⟩
  rw [HA.out]
  replace x0 := cell_carry b3 x0
  replace x1 := cell_carry b3 x1
  replace h := h.below b3
  replace hB := hB.trans (b3.mono hB.size)
  clear b3
  go_wp2_with fail
  (with_reducible refine (KA.out b _ h).mono ?_)
  rintro e w3 ⟨rfl, b3⟩
  rw [HB.out]
  replace x0 := cell_carry b3 x0
  replace x1 := cell_carry b3 x1
  replace h := h.below b3
  replace hB := hB.trans (b3.mono hB.size)
  clear b3 K KA hw0
  have K1 : Hid (∀ L : Later w3, Calls Tryz.prog 133 #[.agg #[.int .i64 m, .slice A vs.length c], .int .i64 a, .int .i64 b] L.W fun e W' => e = .returned (.int .i64 (pairP vs a b)) ∧ ∃ L' : Later w3, W' = L'.W) :=
    fun L => L.call (specPair m A _ c vs a b L.W (h.below L.h) F)
  have K2 : Hid (∀ L : Later w3, Calls Tryz.prog 133 #[.agg #[.int .i64 m, .slice A vs.length c], .int .i64 b, .int .i64 a] L.W fun e W' => e = .returned (.int .i64 (pairP vs b a)) ∧ ∃ L' : Later w3, W' = L'.W) :=
    fun L => L.call (specPair m A _ c vs b a L.W (h.below L.h) F)
  have q0 : ∀ L : Later w3, L.W.cell? ⟨w.heap.size, 0, none⟩ = some (.int .i64 m) := fun L => L.cell x0
  have q1 : ∀ L : Later w3, L.W.cell? ⟨w.heap.size, 1, none⟩ = some (.slice A vs.length c) := fun L => L.cell x1
  obtain ⟨pa, hpa⟩ : ∃ x, pairP vs a b = x := ⟨_, rfl⟩
  obtain ⟨pb, hpb⟩ : ∃ x, pairP vs b a = x := ⟨_, rfl⟩
  rw [hpa] at K1 b1
  rw [hpb] at K2 b2
  have HPA := Lib.hid hpa
  have HPB := Lib.hid hpb
  clear hpa hpb
  have ew : IntKind.i64.wrap (pa - pb) = pa - pb := IntWalk.i64_in _ (by omega)
  go_wp2
  refine wp_region_later (by kernel_rfl) (by kernel_rfl) ?_
  repeat (go_big_quiet_step (first | (with_reducible exact K1.out _) | (with_reducible exact K2.out _)))
  (refine wpQuiet_nil ?_; rintro _ ⟨⟨wl, hbl⟩, rfl⟩)
  go_wp2
  go_ret
  exact ⟨ret_i (by rw [HPA.out, HPB.out]), hB.trans (hbl.mono hB.size)⟩
theorem specLastOf (A : Option Addr) (n c : Nat) (xs : List Int) (w : World) (h : IntsAt w A n xs) (hn : n ≤ 1048576) :
    Calls Tryz.prog 85 #[.slice A n c] w fun e w' => e = .returned (.int .i64 (lastI xs)) ∧ w = w' := by
  obtain rfl := h.len
  unfold lastI
  by_cases h0 : xs.length = 0
  · rw [if_pos h0]
    go_enter Tryz.func85, Tryz.ntmps85
    go_wp2
    go_ret
    exact ⟨rfl, rfl⟩
  · rw [if_neg h0]
    obtain ⟨k, hk⟩ : ∃ k, xs.length = k + 1 := ⟨xs.length - 1, by omega⟩
    obtain ⟨b, o, rfl, _, hc⟩ := h.at_ (show 0 < xs.length by omega)
    have d := hc k (by omega)
    have e1 : xs.length - 1 = k := by omega
    rw [e1]
    have ew : IntKind.i64.wrap ((xs.length : Int) - 1) = (k : Int) := by rw [IntWalk.i64_in _ (by omega)]; omega
    have i1 : (k : Int) < (xs.length : Int) := by omega
    clear hc h
    have H0 : ((xs.length : Int) == 0) = false := by rw [beq_eq_false_iff_ne]; omega
    go_enter Tryz.func85, Tryz.ntmps85
    go_wp2
    go_ret
    exact ⟨rfl, rfl⟩
end Go.Proofs.YtcjnjnegaoihoaaGreat
namespace Go.Proofs.YtcjnjnegaoihoaaGreat
set_option linter.unusedSimpArgs false
set_option linter.unusedVariables false
set_option linter.unusedVariables false
open Go.RowKit

theorem mapTo_lfn (f : Int → Int) (k : Nat) : mapTo f k = lfn (fun i => f (i : Int)) k := by
  apply List.ext_getElem
  · rw [mapTo_len, lfn_len]
  · intro i h1 h2
    rw [mapTo_len] at h1
    rw [← ix_lt, ← ix_lt, mapTo_ix h1, lfn_ix h1]
set_option maxRecDepth 100000 in
set_option maxHeartbeats 1000000 in
theorem specWeightsOk (m : Int) (A : Option Addr) (n c : Nat) (ws : List Int) (w : World) (h : IntsAt w A n ws) (hn : n ≤ 1048576) :
    Calls Tryz.prog 163 #[.int .i64 m, .slice A n c] w fun e w' => e = .returned (.bool (weightsOk m ws)) ∧ w = w' := by
  obtain rfl := h.len
  unfold weightsOk
  cases hm : inB m 1 5
  · go_enter Tryz.func163, Tryz.ntmps163
    go_wp2_with fail
    (with_reducible refine (l01In_any _ _ _ _).mono ?_)
    rintro e w1 ⟨rfl, rfl⟩
    rw [hm]
    go_wp2
    go_ret
    exact ⟨by simp, rfl⟩
  by_cases hl : (ws.length : Int) = m
  case neg =>
    rw [decide_eq_false hl]
    have hl2 : ((ws.length : Int) != m) = true := by rw [bne_iff_ne]; exact hl
    go_enter Tryz.func163, Tryz.ntmps163
    go_wp2_with fail
    (with_reducible refine (l01In_any _ _ _ _).mono ?_)
    rintro e w1 ⟨rfl, rfl⟩
    rw [hm]
    go_wp2
    go_ret
    exact ⟨by simp, rfl⟩
  subst hl
  obtain ⟨T, hT⟩ : ∃ T, (ws.all (inB · 0 100) && descB ws) = T := ⟨_, rfl⟩
  have HT := Lib.hid hT
  have HP : Hid ((true && decide ((ws.length : Int) = ws.length) && ws.all (inB · 0 100) && descB ws) = T) := by show _ = _; rw [← hT]; simp
  clear hT
  have e00 : ((ws.length : Int) != (ws.length : Int)) = false := by simp
  go_enter Tryz.func163, Tryz.ntmps163
  go_wp2_with fail
  (with_reducible refine (l01In_any _ _ _ _).mono ?_)
  rintro e w1 ⟨rfl, rfl⟩
  rw [hm]
  go_wp2
  go_loopw [5, 6, 18] (fun _ _ i wr => ∃ k : Nat, k ≤ ws.length ∧ i = .int .i64 k ∧ Hid ((∀ j, j < k → inB (ix ws j) 0 100 = true) ∧ ∀ j, j + 1 < k → ix ws (j + 1) ≤ ix ws j) ∧ wr = w) (fun _ _ i _ => ws.length - (intOf i).toNat)
  case atStart => exact ⟨0, Nat.zero_le _, rfl, ⟨fun j hj => by omega, fun j hj => by omega⟩, rfl⟩
  case round =>
    obtain ⟨k, hk, rfl, HK, rfl⟩ := hrel
    by_cases hlt : k < ws.length
    · obtain ⟨b, o, rfl, _, hc⟩ := h.at_ hlt
      have d := hc k hlt
      cases hv : inB (ix ws k) 0 100
      · have HF : Hid (false = T) := by
          show _ = _
          rw [← HT.out, List.all_eq_false.2 ⟨_, ix_mem hlt, by rw [hv]; simp⟩]; rfl
        clear hc
        go_wp2_with fail
        (with_reducible refine (l01In_any _ _ _ _).mono ?_)
        rintro e w5 ⟨rfl, rfl⟩
        rw [hv]
        go_wp2
        go_ret
        exact ⟨ret_b (by rw [HP.out, ← HF.out]), rfl⟩
      have HV := Lib.hid hv
      have i1 : (k : Int) < (ws.length : Int) := by omega
      rcases Nat.eq_zero_or_pos k with h0 | h0
      · have e0 : decide ((0 : Int) < (k : Int)) = false := decide_eq_false (by omega)
        have HN : Hid ((∀ j, j < k + 1 → inB (ix ws j) 0 100 = true) ∧ ∀ j, j + 1 < k + 1 → ix ws (j + 1) ≤ ix ws j) := by
          refine ⟨fun j hj => ?_, fun j hj => by omega⟩
          have e : j = k := by omega
          rw [e]; exact HV.out
        have e0' : ¬ ((0 : Int) < (k : Int)) := by omega
        clear hc h0
        go_wp2_with fail
        (with_reducible refine (l01In_any _ _ _ _).mono ?_)
        rintro e w5 ⟨rfl, rfl⟩
        rw [hv]
        clear hv
        go_wp2
        go_roundw
        case rel => exact ⟨k + 1, by omega, by go_num, HN, by trivial⟩
        case measure => simp [intOf]; omega
      · obtain ⟨k', rfl⟩ : ∃ k', k = k' + 1 := ⟨k - 1, by omega⟩
        have d2 := hc k' (by omega)
        have e0 : (0 : Int) < ((k' + 1 : Nat) : Int) := by omega
        have ew : IntKind.i64.wrap (((k' + 1 : Nat) : Int) - 1) = (k' : Int) := by rw [IntWalk.i64_in _ (by omega)]; omega
        have e2 : ((k' + 1 : Nat) : Int) - 1 = (k' : Int) := by omega
        have i2 : (k' : Int) < (ws.length : Int) := by omega
        clear hc h0
        by_cases hgt : ix ws k' < ix ws (k' + 1)
        · have HF : Hid (false = T) := by
            show _ = _
            rw [← HT.out, descB_false (ws := ws) (j := k') (by omega) hgt]; simp
          generalize ix ws k' = x at *
          generalize ix ws (k' + 1) = y at *
          go_wp2_with fail
          (with_reducible refine (l01In_any _ _ _ _).mono ?_)
          rintro e w5 ⟨rfl, rfl⟩
          rw [hv]
          clear hv
          go_wp2
          go_ret
          exact ⟨ret_b (by rw [HP.out, ← HF.out]), rfl⟩
        · have HN : Hid ((∀ j, j < k' + 1 + 1 → inB (ix ws j) 0 100 = true) ∧ ∀ j, j + 1 < k' + 1 + 1 → ix ws (j + 1) ≤ ix ws j) := by
            refine ⟨fun j hj => ?_, fun j hj => ?_⟩
            · by_cases e : j = k' + 1
              · subst e; exact HV.out
              · exact HK.out.1 j (by omega)
            · by_cases e : j = k'
              · subst e; omega
              · exact HK.out.2 j (by omega)
          generalize ix ws k' = x at *
          generalize ix ws (k' + 1) = y at *
          go_wp2_with fail
          (with_reducible refine (l01In_any _ _ _ _).mono ?_)
          rintro e w5 ⟨rfl, rfl⟩
          rw [hv]
          clear hv
          go_wp2
          go_roundw
          case rel => exact ⟨k' + 1 + 1, by omega, by go_num, HN, by trivial⟩
          case measure => simp [intOf]; omega
    · obtain rfl : k = ws.length := by omega
      have HF : Hid (true = T) := by
        show _ = _
        rw [← HT.out, descB_true (fun j hj => HK.out.2 j hj), List.all_eq_true.2 (fun x hx => by
          obtain ⟨j, hj, rfl⟩ := List.getElem_of_mem hx
          rw [← ix_lt hj]; exact HK.out.1 j hj)]; rfl
      go_wp2
      go_ret
      exact ⟨ret_b (by rw [HP.out, ← HF.out]), rfl⟩
theorem plurW_eq {M : Nat} (h1 : 1 ≤ M) (h5 : M ≤ 5) : plurW (M : Int) = (List.replicate M 0).set 0 1 := by
  unfold plurW wtsOf
  rw [inB_15 (by omega) (by omega), if_pos rfl, Int.toNat_natCast, mapTo_lfn, lfn_rep, lfn_set 1 h1]
  refine lfn_ext fun i _ => ?_
  by_cases e : i = 0
  · subst e; rfl
  · rw [if_neg e]; omega
theorem specPlurality (m : Int) (w : World) :
    Calls Tryz.prog 78 #[.int .i64 m] w fun e w' => ∃ A' c', e = .returned (.slice A' (plurW m).length c') ∧ OwnI w' w.heap.size w'.heap.size (.slice A' (plurW m).length c') (plurW m) ∧ Below w.heap.size w w' := by
  cases hm : inB m 1 5
  · have e : plurW m = [] := by unfold plurW wtsOf; rw [hm]; rfl
    rw [e]
    go_enter Tryz.func78, Tryz.ntmps78
    go_wp2_with fail
    (with_reducible refine (l01In_any _ _ _ _).mono ?_)
    rintro e w1 ⟨rfl, rfl⟩
    rw [hm]
    go_wp2
    go_ret
    exact ⟨_, _, rfl, OwnI.nil _ _ _, Below.refl _ _⟩
  have hm' := inB_iff.1 hm
  obtain ⟨M, rfl⟩ : ∃ M : Nat, m = (M : Int) := ⟨m.toNat, by omega⟩
  have HE := Lib.hid (plurW_eq (M := M) (by omega) (by omega))
  have el : (plurW (M : Int)).length = M := by rw [HE.out]; simp
  rw [el]
  go_enter Tryz.func78, Tryz.ntmps78
  go_wp2_with fail
  (with_reducible refine (l01In_any _ _ _ _).mono ?_)
  rintro e w1 ⟨rfl, rfl⟩
  rw [hm]
  clear hm
  go_wp2_with ((with_reducible refine wpList_make_ints _ rfl _ _ rfl M rfl rfl (by omega) ?_))
  intro w2 ho hb hs
  have f1 := ho.frozenAt 0
  have f2 := ho.cellAt 0 (by omega)
  obtain ⟨ho6, hon6⟩ := ho.stored 0 1
  rw [← HE.out] at ho6
  have i1 : (0 : Int) < (M : Int) := by omega
  have hz := hb.size
  have hB := hb.trans (hon6.toBelow (Nat.le_refl _) hz)
  have HO := Lib.hid (ho6.mono (Nat.le_refl _) (show w.heap.size + 1 ≤ (w2.setCell ⟨w.heap.size, 0, none⟩ (.int .i64 1)).heap.size by rw [World.size_setCell]; omega))
  clear ho ho6 hon6 hs hb el
  go_wp2
  go_ret
  exact ⟨_, _, rfl, HO.out, hB⟩
theorem specBorda (m : Int) (w : World) :
    Calls Tryz.prog 79 #[.int .i64 m] w fun e w' => ∃ A' c', e = .returned (.slice A' (bordW m).length c') ∧ OwnI w' w.heap.size w'.heap.size (.slice A' (bordW m).length c') (bordW m) ∧ Below w.heap.size w w' := by
  cases hm : inB m 1 5
  · have e : bordW m = [] := by unfold bordW wtsOf; rw [hm]; rfl
    rw [e]
    go_enter Tryz.func79, Tryz.ntmps79
    go_wp2_with fail
    (with_reducible refine (l01In_any _ _ _ _).mono ?_)
    rintro e w1 ⟨rfl, rfl⟩
    rw [hm]
    go_wp2
    go_ret
    exact ⟨_, _, rfl, OwnI.nil _ _ _, Below.refl _ _⟩
  have hm' := inB_iff.1 hm
  obtain ⟨M, rfl⟩ : ∃ M : Nat, m = (M : Int) := ⟨m.toNat, by omega⟩
  have HE : Hid (bordW (M : Int) = mapTo (fun a => (M : Int) - 1 - a) M) := by show _ = _; unfold bordW wtsOf; rw [hm, if_pos rfl, Int.toNat_natCast]
  have el : (bordW (M : Int)).length = M := by rw [HE.out, mapTo_len]
  rw [el]
  have b0 := alloc_below w (.cells #[] 3)
  have o0 := OwnI.empty w (lo := w.heap.size) (hi := (w.alloc (.cells #[] 3)).heap.size) (Nat.le_refl _) (by simp)
  have z0 : w.heap.size < (w.alloc (.cells #[] 3)).heap.size := by simp
  have ew : IntKind.i64.wrap ((M : Int) - 1) = (M : Int) - 1 := IntWalk.i64_in _ (by omega)
  go_enter Tryz.func79, Tryz.ntmps79
  go_wp2_with fail
  (with_reducible refine (l01In_any _ _ _ _).mono ?_)
  rintro e w1 ⟨rfl, rfl⟩
  rw [hm]
  clear hm el
  go_wp2
  go_loopw [3, 4] (fun v i wr => ∃ (k : Nat) (A' : Option Addr) (c' : Nat), k ≤ M ∧ i = .int .i64 ((M : Int) - 1 - k) ∧ v = .slice A' k c' ∧ OwnI wr w.heap.size wr.heap.size (.slice A' k c') (mapTo (fun a => (M : Int) - 1 - a) k) ∧ Below w.heap.size w wr) (fun _ i _ => (intOf i + 1).toNat)
  case atStart => exact ⟨0, _, 0, Nat.zero_le _, by simp, rfl, o0, b0⟩
  case round =>
    clear o0 b0 z0
    obtain ⟨k, A1, c1, hk, rfl, rfl, ho, hb⟩ := hrel
    have z2 := hb.size
    by_cases hlt : k < M
    · have HS : Hid (mapTo (fun a => (M : Int) - 1 - a) (k + 1) = mapTo (fun a => (M : Int) - 1 - a) k ++ [(M : Int) - 1 - (k : Int)]) := rfl
      have hl := mapTo_len (fun a => (M : Int) - 1 - a) k
      have e2 : (M : Int) - 1 - ((k : Int) + 1) = (M : Int) - 1 - (k : Int) - 1 := by omega
      have e1 : (0 : Int) ≤ (M : Int) - 1 - (k : Int) := by omega
      generalize mapTo (fun a => (M : Int) - 1 - a) k = xs at *
      have HL := Lib.hid hl
      clear hl
      obtain ⟨y, hy⟩ : ∃ y, (M : Int) - 1 - (k : Int) = y := ⟨_, rfl⟩
      rw [hy] at HS e1
      have HY := Lib.hid hy
      rw [hy]
      have bdy : y ≤ 5 := by omega
      clear hy e2
      go_wp2_with (at_builtin; refine wpList_append_int _ rfl _ _ rfl (w.heap.size) _ (k) _ _ _ rfl (ho.alloc _) (y) _ 1 rfl (new_cell _ _ _ rfl) (by omega) (by simp; omega) (by simp; omega) ?_)
      intro A4 c4 w4 o4 on4
      have hb4 := (hb.alloc z2 (.cells #[.int .i64 y] 3)).trans (on4.toBelow (Nat.le_refl _) (by simp; omega))
      clear on4 ho
      go_wp2
      go_roundw
      case rel => exact ⟨k + 1, A4, c4, by omega, by have := HY.out; congr 1; omega, rfl, by rw [HS.out]; exact o4, hb4⟩
      case measure => simp [intOf]; omega
    · obtain rfl : k = M := by omega
      have e1 : ¬ ((0 : Int) ≤ (k : Int) - 1 - (k : Int)) := by omega
      rw [← HE.out] at ho
      go_wp2
      go_ret
      exact ⟨_, _, rfl, ho, hb⟩
end Go.Proofs.YtcjnjnegaoihoaaGreat
