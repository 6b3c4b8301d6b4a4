/- Profiles, the reference's side: ProfileOk, l04Voters, l04Pair, l06Beats, MarginOf. Quotas of seats. Numbers below n in the order of what is left of each, greatest first: plain Lean, no program is walked here. The library's stable sort of few numbers, by what is left of each. -/
import Derived.Test.YtaanppihgldeaaaGreatDoorW05
import Derived.Test.YtaanppihgldeaaaGreatDoorW09
import Derived.Test.YtaanppihgldeaaaGreatDoorW06
import Derived.Test.YtaanppihgldeaaaGreatDoorW03
import Derived.Test.YtaanppihgldeaaaGreatDoorW08
namespace Go.Proofs.YtaanppihgldeaaaGreatDoor
set_option linter.unusedSimpArgs false
set_option linter.unusedVariables false
set_option linter.unusedVariables false
open Go.RowKit

set_option maxRecDepth 100000 in
set_option maxHeartbeats 1000000 in
theorem specProfileOk (m : Int) (A : Option Addr) (n c : Nat) (vs : List Vt) (w : World) (h : VotesAt w A n vs) (hn : n ≤ 1048576) (hx : ∀ v ∈ vs, v.r.length ≤ 1048576) :
    Calls Tryz.prog 23 #[.agg #[.int .i64 m, .slice A n c]] w fun e w' => e = .returned (.bool (profOk m vs)) ∧ Below w.heap.size w w' := by
  obtain rfl := h.len
  have hB := alloc_below w (.cells #[.int .i64 m, .slice A vs.length c] 24)
  obtain ⟨x0, x1⟩ := PBox.new w m A vs.length c 24 rfl
  replace h := h.below hB
  generalize hw0 : w.alloc (.cells #[.int .i64 m, .slice A vs.length c] 24) = w0 at *
  have HX := Lib.hid hx
  unfold profOk
  clear hx
  cases hm : inB m 1 5
  · go_enter Tryz.func23, Tryz.ntmps23
    go_wp2_with fail
    (with_reducible refine (l01In_any _ _ _ _).mono ?_)
    rintro e w1 ⟨rfl, rfl⟩
    rw [hm]
    go_wp2
    go_ret
    exact ⟨by simp, hB⟩
  by_cases hl : vs.length ≤ 24
  case neg =>
    rw [decide_eq_false hl]
    go_enter Tryz.func23, Tryz.ntmps23
    go_wp2_with fail
    (with_reducible refine (l01In_any _ _ _ _).mono ?_)
    rintro e w1 ⟨rfl, rfl⟩
    rw [hm]
    go_wp2
    go_ret
    exact ⟨by simp, hB⟩
  rw [decide_eq_true hl]
  obtain ⟨T, hT⟩ : ∃ T, vs.all (voteOk m) = T := ⟨_, rfl⟩
  have HT := Lib.hid hT
  rw [hT]
  clear hT
  go_enter Tryz.func23, Tryz.ntmps23
  go_wp2_with fail
  (with_reducible refine (l01In_any _ _ _ _).mono ?_)
  rintro e w1 ⟨rfl, rfl⟩
  rw [hm]
  clear hw0
  have x0' := x0
  go_wp2
  go_loopw [18] (fun i wr => ∃ k : Nat, k ≤ vs.length ∧ i = .int .i64 k ∧ (vs.take k).all (voteOk m) = true ∧ Below w0.heap.size w0 wr) (fun i _ => vs.length - (intOf i).toNat)
  case atStart => exact ⟨0, Nat.zero_le _, rfl, rfl, Below.refl _ _⟩
  case round =>
    obtain ⟨k, hk, rfl, hall, hb⟩ := hrel
    have HA := Lib.hid hall
    clear hall
    by_cases hlt : k < vs.length
    · obtain ⟨b, o, A', c', rfl, hbl, hc1, hc2, hcc, hin⟩ := (h.below hb).at_ hlt
      have hxv := HX.out _ (vx_mem hlt)
      have HTK := Lib.hid (take_vx hlt)
      have HM := Lib.hid (vx_mem hlt)
      generalize vx vs k = v at *
      have b1 := alloc_below wr (.cells #[.slice A' v.r.length c', .int .i64 v.c] 44)
      obtain ⟨y0, y1⟩ := new_pair wr (.slice A' v.r.length c') (.int .i64 v.c) 44 rfl
      have x0' := cell_carry (hb.trans (b1.mono hb.size)) x0
      have hi2 := hin.below b1
      have hB2 := hb.trans (b1.mono hb.size)
      generalize hw3 : wr.alloc (.cells #[.slice A' v.r.length c', .int .i64 v.c] 44) = w3 at *
      have KR := Lib.hid (specRankingOk m A' v.r.length c' v.r w3 hi2 hxv hcc)
      have HV : Hid (voteOk m v = (rankOk m v.r && inB v.c 1 1000)) := rfl
      clear b1 hi2 hin hb
      generalize hrk : rankOk m v.r = q at *
      cases q
      · have HF : Hid (false = T) := by
          show _ = _
          rw [← HT.out]
          refine (List.all_eq_false.2 ⟨v, HM.out, ?_⟩).symm
          rw [HV.out]; simp
        clear hrk
        go_wp2_with fail
        (with_reducible refine KR.out.mono ?_)
        rintro e w4 ⟨rfl, b4⟩
        have hB4 := hB.trans ((hB2.trans (b4.mono hB2.size)).mono hB.size)
        clear b4
        go_wp2
        go_ret
        exact ⟨ret_b (by rw [← HF.out]; simp), hB4⟩
      · clear hrk
        go_wp2_with fail
        (with_reducible refine KR.out.mono ?_)
        rintro e w4 ⟨rfl, b4⟩
        replace hB2 := hB2.trans (b4.mono hB2.size)
        replace y1 := cell_carry b4 y1
        clear b4
        go_wp2_with fail
        (with_reducible refine (l01In_any _ _ _ _).mono ?_)
        rintro e w5 ⟨rfl, rfl⟩
        cases hv : inB v.c 1 1000
        · have HF : Hid (false = T) := by
            show _ = _
            rw [← HT.out]
            refine (List.all_eq_false.2 ⟨v, HM.out, ?_⟩).symm
            rw [HV.out, hv]; simp
          have hB4 := hB.trans (hB2.mono hB.size)
          go_wp2
          go_ret
          exact ⟨ret_b (by rw [← HF.out]; simp), hB4⟩
        · have HN : Hid ((vs.take (k + 1)).all (voteOk m) = true) := by
            show _ = _
            rw [HTK.out, List.all_append, HA.out, List.all_cons, HV.out, hv]; rfl
          go_wp2
          go_roundw
          case rel => exact ⟨k + 1, by omega, by go_num, HN.out, hB2⟩
          case measure => simp [intOf]; omega
    · obtain rfl : k = vs.length := by omega
      have HF : Hid (true = T) := by
        show _ = _
        rw [← HT.out, ← HA.out, List.take_length]
      have hB2 := hB.trans (hb.mono hB.size)
      go_wp2
      go_ret
      exact ⟨ret_b (by rw [← HF.out]; simp), hB2⟩
set_option maxHeartbeats 400000 in
theorem specVoters (m : Int) (A : Option Addr) (n c : Nat) (vs : List Vt) (w : World) (h : VotesAt w A n vs) (hn : n ≤ 24) (hc : ∀ v ∈ vs, 0 ≤ v.c ∧ v.c ≤ 1000) :
    Calls Tryz.prog 182 #[.agg #[.int .i64 m, .slice A n c]] w fun e w' => e = .returned (.int .i64 (votersP vs)) ∧ Below w.heap.size w w' := by
  obtain rfl := h.len
  have hB := alloc_below w (.cells #[.int .i64 m, .slice A vs.length c] 24)
  obtain ⟨x0, x1⟩ := PBox.new w m A vs.length c 24 rfl
  replace h := h.below hB
  generalize hw0 : w.alloc (.cells #[.int .i64 m, .slice A vs.length c] 24) = w0 at *
  have HC := Lib.hid hc
  clear hc
  unfold votersP vts
  go_enter Tryz.func182, Tryz.ntmps182
  go_wp2
  clear hw0 x0 x1
  go_loopw [3, 9] (fun s i wr => ∃ k : Nat, k ≤ vs.length ∧ i = .int .i64 k ∧ s = .int .i64 (vtsTo (fun _ => true) vs k) ∧ Below w0.heap.size w0 wr) (fun _ i _ => vs.length - (intOf i).toNat)
  case atStart => exact ⟨0, Nat.zero_le _, rfl, rfl, Below.refl _ _⟩
  case round =>
    obtain ⟨k, hk, rfl, rfl, hb⟩ := hrel
    by_cases hlt : k < vs.length
    · obtain ⟨b, o, A', c', rfl, hbl, hc1, hc2, hcc, hin⟩ := (h.below hb).at_ hlt
      have bd := vtsTo_bd (f := fun _ => true) HC.out k (by omega)
      have vb := HC.out _ (vx_mem hlt)
      have HS : Hid (vtsTo (fun _ => true) vs (k + 1) = vtsTo (fun _ => true) vs k + (vx vs k).c) := rfl
      generalize vx vs k = v at *
      generalize vtsTo (fun _ => true) vs k = s at *
      have b1 := alloc_below wr (.cells #[.slice A' v.r.length c', .int .i64 v.c] 44)
      obtain ⟨y0, y1⟩ := new_pair wr (.slice A' v.r.length c') (.int .i64 v.c) 44 rfl
      have hB2 := hb.trans (b1.mono hb.size)
      clear b1 hin hb
      generalize hw3 : wr.alloc (.cells #[.slice A' v.r.length c', .int .i64 v.c] 44) = w3 at *
      go_wp2
      go_roundw
      case rel => exact ⟨k + 1, by omega, by go_num, by rw [HS.out], hB2⟩
      case measure => simp [intOf]; omega
    · obtain rfl : k = vs.length := by omega
      have hB2 := hB.trans (hb.mono hB.size)
      go_wp2
      go_ret
      exact ⟨rfl, hB2⟩
set_option maxHeartbeats 400000 in
theorem specPair (m : Int) (A : Option Addr) (n c : Nat) (vs : List Vt) (a b : Int) (w : World) (h : VotesAt w A n vs) (F : PF m vs) :
    Calls Tryz.prog 183 #[.agg #[.int .i64 m, .slice A n c], .int .i64 a, .int .i64 b] w fun e w' => e = .returned (.int .i64 (pairP vs a b)) ∧ Below w.heap.size w w' := by
  obtain rfl := h.len
  have hB := alloc_below w (.cells #[.int .i64 m, .slice A vs.length c] 24)
  obtain ⟨x0, x1⟩ := PBox.new w m A vs.length c 24 rfl
  replace h := h.below hB
  generalize hw0 : w.alloc (.cells #[.int .i64 m, .slice A vs.length c] 24) = w0 at *
  have n24 := F.n
  unfold pairP vts
  go_enter Tryz.func183, Tryz.ntmps183
  go_wp2
  clear hw0 x0 x1
  go_loopw [7, 13] (fun s i wr => ∃ k : Nat, k ≤ vs.length ∧ i = .int .i64 k ∧ s = .int .i64 (vtsTo (fun r => pref r a b) vs k) ∧ Below w0.heap.size w0 wr) (fun _ i _ => vs.length - (intOf i).toNat)
  case atStart => exact ⟨0, Nat.zero_le _, rfl, rfl, Below.refl _ _⟩
  case round =>
    obtain ⟨k, hk, rfl, rfl, hb⟩ := hrel
    by_cases hlt : k < vs.length
    · obtain ⟨bb, o, A', c', rfl, hbl, hc1, hc2, hcc, hin⟩ := (h.below hb).at_ hlt
      have bd := vtsTo_bd (f := fun r => pref r a b) F.c k (by omega)
      have vb := F.c _ (vx_mem hlt)
      have vl : (vx vs k).r.length ≤ 5 := by have := F.l _ (vx_mem hlt); have := F.m5; omega
      have HS : Hid (vtsTo (fun r => pref r a b) vs (k + 1) = vtsTo (fun r => pref r a b) vs k + (if pref (vx vs k).r a b then (vx vs k).c else 0)) := rfl
      generalize vx vs k = v at *
      generalize vtsTo (fun r => pref r a b) vs k = s at *
      have b1 := alloc_below wr (.cells #[.slice A' v.r.length c', .int .i64 v.c] 44)
      obtain ⟨y0, y1⟩ := new_pair wr (.slice A' v.r.length c') (.int .i64 v.c) 44 rfl
      have hB2 := hb.trans (b1.mono hb.size)
      have K := Lib.hid (specPrefers A' v.r.length c' v.r a b _ (hin.below b1) (by omega))
      clear b1 hin hb
      generalize hw3 : wr.alloc (.cells #[.slice A' v.r.length c', .int .i64 v.c] 44) = w3 at *
      go_wp2_with fail
      (with_reducible refine K.out.mono ?_)
      rintro e w4 ⟨rfl, rfl⟩
      cases hf : pref v.r a b
      · rw [hf, if_neg (by simp), Int.add_zero] at HS
        go_wp2
        go_roundw
        case rel => exact ⟨k + 1, by omega, by go_num, by rw [HS.out], hB2⟩
        case measure => simp [intOf]; omega
      · rw [hf, if_pos rfl] at HS
        go_wp2
        go_roundw
        case rel => exact ⟨k + 1, by omega, by go_num, by rw [HS.out], hB2⟩
        case measure => simp [intOf]; omega
    · obtain rfl : k = vs.length := by omega
      have hB2 := hB.trans (hb.mono hB.size)
      go_wp2
      go_ret
      exact ⟨rfl, hB2⟩
theorem beats_gt (vs : List Vt) (a b : Int) : beatsP vs a b = decide (pairP vs b a < pairP vs a b) := by unfold beatsP marginP; rw [decide_eq_decide]; omega
theorem specBeats (m : Int) (A : Option Addr) (n c : Nat) (vs : List Vt) (a b : Int) (w : World) (h : VotesAt w A n vs) (F : PF m vs) :
    Calls Tryz.prog 185 #[.agg #[.int .i64 m, .slice A n c], .int .i64 a, .int .i64 b] w fun e w' => e = .returned (.bool (beatsP vs a b)) ∧ Below w.heap.size w w' := by
  obtain rfl := h.len
  have hB := alloc_below w (.cells #[.int .i64 m, .slice A vs.length c] 24)
  obtain ⟨x0, x1⟩ := PBox.new w m A vs.length c 24 rfl
  replace h := h.below hB
  generalize hw0 : w.alloc (.cells #[.int .i64 m, .slice A vs.length c] 24) = w0 at *
  rw [beats_gt]
  have K1 : Hid (∀ L : Later w0, Calls Tryz.prog 183 #[.agg #[.int .i64 m, .slice A vs.length c], .int .i64 a, .int .i64 b] L.W fun e W' => e = .returned (.int .i64 (pairP vs a b)) ∧ ∃ L' : Later w0, W' = L'.W) :=
    fun L => L.call (specPair m A _ c vs a b L.W (h.below L.h) F)
  have K2 : Hid (∀ L : Later w0, Calls Tryz.prog 183 #[.agg #[.int .i64 m, .slice A vs.length c], .int .i64 b, .int .i64 a] L.W fun e W' => e = .returned (.int .i64 (pairP vs b a)) ∧ ∃ L' : Later w0, W' = L'.W) :=
    fun L => L.call (specPair m A _ c vs b a L.W (h.below L.h) F)
  have q0 : ∀ L : Later w0, L.W.cell? ⟨w.heap.size, 0, none⟩ = some (.int .i64 m) := fun L => L.cell x0
  have q1 : ∀ L : Later w0, L.W.cell? ⟨w.heap.size, 1, none⟩ = some (.slice A vs.length c) := fun L => L.cell x1
  generalize pairP vs a b = pa at *
  generalize pairP vs b a = pb at *
  go_enter Tryz.func185, Tryz.ntmps185
  go_wp2
  clear hw0
  refine wp_region_later (by kernel_rfl) (by kernel_rfl) ?_
  repeat (go_big_quiet_step (first | (with_reducible exact K1.out _) | (with_reducible exact K2.out _)))
  (refine wpQuiet_nil ?_; rintro _ ⟨⟨wl, hbl⟩, rfl⟩)
  go_wp2
  go_ret
  exact ⟨rfl, hB.trans (hbl.mono hB.size)⟩
theorem specCandidate (m : Int) (A : Option Addr) (n c : Nat) (a : Int) (w : World) (hm : 1 ≤ m ∧ m ≤ 5) (hn : n ≤ 1048576) (h : ∃ vs, VotesAt w A n vs) :
    Calls Tryz.prog 249 #[.agg #[.int .i64 m, .slice A n c], .int .i64 a] w fun e w' => e = .returned (.bool (inB a 0 (m - 1))) ∧ Below w.heap.size w w' := by
  obtain ⟨vs, h⟩ := h
  obtain rfl := h.len
  have hB := alloc_below w (.cells #[.int .i64 m, .slice A vs.length c] 24)
  obtain ⟨x0, x1⟩ := PBox.new w m A vs.length c 24 rfl
  replace h := h.below hB
  generalize hw0 : w.alloc (.cells #[.int .i64 m, .slice A vs.length c] 24) = w0 at *
  have ew : IntKind.i64.wrap (m - 1) = m - 1 := IntWalk.i64_in _ (by omega)
  go_enter Tryz.func249, Tryz.ntmps249
  go_wp2_with fail
  (with_reducible refine (l01In_any _ _ _ _).mono ?_)
  rintro e w1 ⟨rfl, rfl⟩
  go_wp2
  go_ret
  exact ⟨rfl, hB⟩
set_option maxHeartbeats 400000 in
theorem specMarginOf (m : Int) (A : Option Addr) (n c : Nat) (vs : List Vt) (a b : Int) (w : World) (h : VotesAt w A n vs) (hp : profOk m vs = true) (ha : inB a 0 (m - 1) = true) (hb : inB b 0 (m - 1) = true) :
    Calls Tryz.prog 236 #[.agg #[.int .i64 m, .slice A n c], .int .i64 a, .int .i64 b] w fun e w' => e = .returned (.int .i64 (marginP vs a b)) ∧ Below w.heap.size w w' := by
  obtain rfl := h.len
  have hB := alloc_below w (.cells #[.int .i64 m, .slice A vs.length c] 24)
  obtain ⟨x0, x1⟩ := PBox.new w m A vs.length c 24 rfl
  replace h := h.below hB
  generalize hw0 : w.alloc (.cells #[.int .i64 m, .slice A vs.length c] 24) = w0 at *
  have F := pf_of hp
  have n24 := F.n
  have K := Lib.hid (specProfileOk m A vs.length c vs w0 h (by omega) (fun v hv => by have := F.l v hv; have := F.m5; omega))
  rw [hp] at K
  have KA := Lib.hid (fun x W (hW : VotesAt W A vs.length vs) => specCandidate m A vs.length c x W ⟨F.m1, F.m5⟩ (by omega) ⟨vs, hW⟩)
  have HA := Lib.hid ha
  have HB := Lib.hid hb
  clear hp ha hb
  unfold marginP
  have b1 := pair_bd F a b
  have b2 := pair_bd F b a
  go_enter Tryz.func236, Tryz.ntmps236
  go_wp2_with fail
  (with_reducible refine (K.out).mono ?_)
  rintro e w1 ⟨rfl, b1⟩
  replace x0 := cell_carry b1 x0
  replace x1 := cell_carry b1 x1
  replace h := h.below b1
  replace hB := hB.trans (b1.mono hB.size)
  clear b1
  go_wp2_with fail
  (with_reducible refine (KA.out a _ h).mono ?_)
  rintro e w2 ⟨rfl, b3⟩
  rw [HA.out]
  replace x0 := cell_carry b3 x0
  replace x1 := cell_carry b3 x1
  replace h := h.below b3
  replace hB := hB.trans (b3.mono hB.size)
  clear b3
  go_wp2_with fail
  (with_reducible refine (KA.out b _ h).mono ?_)
  rintro e w3 ⟨rfl, b3⟩
  rw [HB.out]
  replace x0 := cell_carry b3 x0
  replace x1 := cell_carry b3 x1
  replace h := h.below b3
  replace hB := hB.trans (b3.mono hB.size)
  clear b3 K KA hw0
  have K1 : Hid (∀ L : Later w3, Calls Tryz.prog 183 #[.agg #[.int .i64 m, .slice A vs.length c], .int .i64 a, .int .i64 b] L.W fun e W' => e = .returned (.int .i64 (pairP vs a b)) ∧ ∃ L' : Later w3, W' = L'.W) :=
    fun L => L.call (specPair m A _ c vs a b L.W (h.below L.h) F)
  have K2 : Hid (∀ L : Later w3, Calls Tryz.prog 183 #[.agg #[.int .i64 m, .slice A vs.length c], .int .i64 b, .int .i64 a] L.W fun e W' => e = .returned (.int .i64 (pairP vs b a)) ∧ ∃ L' : Later w3, W' = L'.W) :=
    fun L => L.call (specPair m A _ c vs b a L.W (h.below L.h) F)
  have q0 : ∀ L : Later w3, L.W.cell? ⟨w.heap.size, 0, none⟩ = some (.int .i64 m) := fun L => L.cell x0
  have q1 : ∀ L : Later w3, L.W.cell? ⟨w.heap.size, 1, none⟩ = some (.slice A vs.length c) := fun L => L.cell x1
  obtain ⟨pa, hpa⟩ : ∃ x, pairP vs a b = x := ⟨_, rfl⟩
  obtain ⟨pb, hpb⟩ : ∃ x, pairP vs b a = x := ⟨_, rfl⟩
  rw [hpa] at K1 b1
  rw [hpb] at K2 b2
  have HPA := Lib.hid hpa
  have HPB := Lib.hid hpb
  clear hpa hpb
  have ew : IntKind.i64.wrap (pa - pb) = pa - pb := IntWalk.i64_in _ (by omega)
  go_wp2
  refine wp_region_later (by kernel_rfl) (by kernel_rfl) ?_
  repeat (go_big_quiet_step (first | (with_reducible exact K1.out _) | (with_reducible exact K2.out _)))
  (refine wpQuiet_nil ?_; rintro _ ⟨⟨wl, hbl⟩, rfl⟩)
  go_wp2
  go_ret
  exact ⟨ret_i (by rw [HPA.out, HPB.out]), hB.trans (hbl.mono hB.size)⟩
theorem specLastOf (A : Option Addr) (n c : Nat) (xs : List Int) (w : World) (h : IntsAt w A n xs) (hn : n ≤ 1048576) :
    Calls Tryz.prog 136 #[.slice A n c] w fun e w' => e = .returned (.int .i64 (lastI xs)) ∧ w = w' := by
  obtain rfl := h.len
  unfold lastI
  by_cases h0 : xs.length = 0
  · rw [if_pos h0]
    go_enter Tryz.func136, Tryz.ntmps136
    go_wp2
    go_ret
    exact ⟨rfl, rfl⟩
  · rw [if_neg h0]
    obtain ⟨k, hk⟩ : ∃ k, xs.length = k + 1 := ⟨xs.length - 1, by omega⟩
    obtain ⟨b, o, rfl, _, hc⟩ := h.at_ (show 0 < xs.length by omega)
    have d := hc k (by omega)
    have e1 : xs.length - 1 = k := by omega
    rw [e1]
    have ew : IntKind.i64.wrap ((xs.length : Int) - 1) = (k : Int) := by rw [IntWalk.i64_in _ (by omega)]; omega
    have i1 : (k : Int) < (xs.length : Int) := by omega
    clear hc h
    have H0 : ((xs.length : Int) == 0) = false := by rw [beq_eq_false_iff_ne]; omega
    go_enter Tryz.func136, Tryz.ntmps136
    go_wp2
    go_ret
    exact ⟨rfl, rfl⟩
end Go.Proofs.YtaanppihgldeaaaGreatDoor
namespace Go.Proofs.YtaanppihgldeaaaGreatDoor
set_option linter.unusedSimpArgs false
set_option linter.unusedVariables false
set_option linter.unusedVariables false
open Go.RowKit

def quotaOk (xs : List Int) (k : Int) : Bool := countsOk xs && inB k 0 100
theorem quotaOk_facts {xs : List Int} {k : Int} (h : quotaOk xs k = true) : countsOk xs = true ∧ 0 ≤ k ∧ k ≤ 100 := by
  unfold quotaOk at h
  rw [Bool.and_eq_true, inB_iff] at h
  exact h
def lowF (t a : Int) : Int := t / a
def upF (t a : Int) : Int := (t + a - 1) / a
def remF (t a : Int) : Int := t % a
/-- of each count a number made of its claim and of all counts -/
def mapQ (f : Int → Int → Int) (s k : Int) (xs : List Int) : List Int := xs.map fun x => f (x * k) s
theorem mapQ_len (f : Int → Int → Int) (s k : Int) (xs : List Int) : (mapQ f s k xs).length = xs.length := by simp [mapQ]
theorem mapQ_take (f : Int → Int → Int) (s k : Int) {xs : List Int} {j : Nat} (h : j < xs.length) : mapQ f s k (xs.take (j + 1)) = mapQ f s k (xs.take j) ++ [f (ix xs j * k) s] := by
  rw [take_ix h]; simp [mapQ]
def quotasOf (f : Int → Int → Int) (xs : List Int) (k : Int) : List Int := if quotaOk xs k then mapQ f (lsum xs) k xs else []
theorem quotasOf_yes {f : Int → Int → Int} {xs : List Int} {k : Int} (h : quotaOk xs k = true) : quotasOf f xs k = mapQ f (lsum xs) k xs := by unfold quotasOf; rw [if_pos h]
theorem quotasOf_no {f : Int → Int → Int} {xs : List Int} {k : Int} (h : quotaOk xs k = false) : quotasOf f xs k = [] := by unfold quotasOf; rw [h]; rfl
theorem claim_bd {x k : Int} (h1 : 0 ≤ x ∧ x ≤ 1000000) (h2 : 0 ≤ k) (h3 : k ≤ 100) : 0 ≤ x * k ∧ x * k ≤ 100000000 := by
  have a1 := Int.mul_nonneg h1.1 h2
  have a2 := Int.mul_le_mul h1.2 h3 h2 (by omega)
  exact ⟨a1, by omega⟩
theorem counts_bd {xs : List Int} (h : countsOk xs = true) : ∀ x ∈ xs, 0 ≤ x ∧ x ≤ 1000000000 := fun x hx => by have := (countsOk_facts h).2.2.1 x hx; omega
theorem div_bd {t a : Int} (h0 : 0 ≤ t) (h1 : 1 ≤ a) : 0 ≤ t / a ∧ t / a ≤ t := ⟨Int.ediv_nonneg h0 (by omega), Int.ediv_le_self a h0⟩
theorem mod_bd {t a : Int} (h1 : 1 ≤ a) : 0 ≤ t % a ∧ t % a < a := ⟨Int.emod_nonneg t (by omega), Int.emod_lt_of_pos t (by omega)⟩

end Go.Proofs.YtaanppihgldeaaaGreatDoor
namespace Go.Proofs.YtaanppihgldeaaaGreatDoor
set_option linter.unusedSimpArgs false
set_option linter.unusedVariables false
set_option linter.unusedVariables false
open Go.RowKit

/-- what is left of a -/
def rv (rs : List Int) (a : Int) : Int := ix rs a.toNat
/-- a comes ahead of b -/
def bef (rs : List Int) (a b : Int) : Prop := rv rs b < rv rs a ∨ (rv rs a = rv rs b ∧ a < b)
theorem bef_asymm {rs : List Int} {a b : Int} (h1 : bef rs a b) (h2 : bef rs b a) : False := by unfold bef at h1 h2; omega
/-- where x goes among the first j of S, looked for from the right -/
def slide (rs S : List Int) (x : Int) : Nat → Nat
  | 0 => 0
  | j + 1 => if rv rs (ix S j) < rv rs x then slide rs S x j else j + 1
def insS (rs S : List Int) (x : Int) : List Int := S.take (slide rs S x S.length) ++ x :: S.drop (slide rs S x S.length)
def sortS (rs : List Int) : Nat → List Int
  | 0 => []
  | k + 1 => insS rs (sortS rs k) (k : Int)
theorem slide_le (rs S : List Int) (x : Int) : ∀ j, slide rs S x j ≤ j
  | 0 => Nat.le_refl _
  | j + 1 => by have := slide_le rs S x j; unfold slide; split <;> omega
theorem slide_right {rs S : List Int} {x : Int} : ∀ {j i : Nat}, slide rs S x j ≤ i → i < j → rv rs (ix S i) < rv rs x
  | 0, _, _, h => absurd h (by omega)
  | j + 1, i, h1, h2 => by
    unfold slide at h1
    split at h1
    · rename_i h
      by_cases e : i = j
      · subst e; exact h
      · exact slide_right h1 (by omega)
    · omega
theorem slide_left {rs S : List Int} {x : Int} : ∀ {j : Nat}, 0 < slide rs S x j → rv rs x ≤ rv rs (ix S (slide rs S x j - 1))
  | 0, h => absurd h (by simp [slide])
  | j + 1, h => by
    unfold slide at h ⊢
    split at h
    · rename_i h0
      rw [if_pos h0]
      exact slide_left h
    · rename_i h0
      rw [if_neg h0]
      simp only [Nat.add_sub_cancel]
      omega
theorem insS_perm (rs S : List Int) (x : Int) : (insS rs S x).Perm (S ++ [x]) := by
  unfold insS
  refine (List.perm_middle).trans ?_
  rw [List.take_append_drop]
  exact (List.perm_append_comm (l₁ := [x]) (l₂ := S))
theorem sortS_perm (rs : List Int) : ∀ k, (sortS rs k).Perm (upE k)
  | 0 => List.Perm.refl _
  | k + 1 => by
    have e : upE (k + 1) = upE k ++ [(k : Int)] := by unfold upE; rw [List.range_succ, List.map_append]; rfl
    rw [e]
    exact (insS_perm _ _ _).trans ((sortS_perm rs k).append_right _)
theorem sortS_len (rs : List Int) (k : Nat) : (sortS rs k).length = k := by rw [(sortS_perm rs k).length_eq, upE_len]
theorem sortS_mem {rs : List Int} {k : Nat} {x : Int} : x ∈ sortS rs k ↔ 0 ≤ x ∧ x < k := by
  rw [(sortS_perm rs k).mem_iff]
  constructor
  · intro h
    obtain ⟨j, hj, rfl⟩ := upE_mem h
    omega
  · intro h
    unfold upE
    exact List.mem_map.2 ⟨x.toNat, List.mem_range.2 (by omega), by omega⟩
theorem sortS_at {rs : List Int} {k j : Nat} (h : j < k) : 0 ≤ ix (sortS rs k) j ∧ ix (sortS rs k) j < k := sortS_mem.1 (ix_mem (by rw [sortS_len]; exact h))
theorem insS_sorted {rs S : List Int} {x : Int} (hs : S.Pairwise (bef rs)) (hx : ∀ y ∈ S, y < x) : (insS rs S x).Pairwise (bef rs) := by
  have hp := slide_le rs S x S.length
  have hr := @slide_right rs S x S.length
  have hl := @slide_left rs S x S.length
  unfold insS
  generalize slide rs S x S.length = p at *
  have hi := List.pairwise_iff_getElem.1 hs
  have hS := hs
  rw [← List.take_append_drop p S, List.pairwise_append] at hS
  rw [List.pairwise_append, List.pairwise_cons]
  refine ⟨hS.1, ⟨fun b hb => ?_, hS.2.1⟩, fun a ha b hb => ?_⟩
  · obtain ⟨j, hj, rfl⟩ := List.getElem_of_mem hb
    rw [List.length_drop] at hj
    have := hr (i := p + j) (by omega) (by omega)
    rw [ix_lt (show p + j < S.length by omega)] at this
    rw [List.getElem_drop]
    exact .inl this
  · rcases List.mem_cons.1 hb with rfl | hb
    · have hay := hx a (List.mem_of_mem_take ha)
      obtain ⟨j, hj, rfl⟩ := List.getElem_of_mem ha
      rw [List.length_take] at hj
      have h1 := hl (by omega)
      rw [ix_lt (show p - 1 < S.length by omega)] at h1
      rw [List.getElem_take] at hay ⊢
      by_cases e : j = p - 1
      · subst e
        unfold bef; omega
      · have := hi j (p - 1) (by omega) (by omega) (by omega)
        unfold bef at this ⊢
        omega
    · exact hS.2.2 a ha b hb
theorem sortS_sorted (rs : List Int) : ∀ k, (sortS rs k).Pairwise (bef rs)
  | 0 => List.Pairwise.nil
  | k + 1 => insS_sorted (sortS_sorted rs k) fun y hy => (sortS_mem.1 hy).2
theorem sortS_bef {rs : List Int} {k i j : Nat} (h : i < j) (hj : j < k) : bef rs (ix (sortS rs k) i) (ix (sortS rs k) j) := by
  have hl := sortS_len rs k
  rw [ix_lt (show i < (sortS rs k).length by omega), ix_lt (show j < (sortS rs k).length by omega)]
  exact List.pairwise_iff_getElem.1 (sortS_sorted rs k) i j (by omega) (by omega) h
/-- the row while x is on its way: it stands at place j -/
def way (S : List Int) (x : Int) (tail : List Int) (j : Nat) : List Int := S.take j ++ x :: (S.drop j ++ tail)
theorem way_len {S tail : List Int} {x : Int} {j : Nat} (h : j ≤ S.length) : (way S x tail j).length = S.length + 1 + tail.length := by unfold way; simp; omega
theorem way_at {S tail : List Int} {x : Int} {j : Nat} (h : j ≤ S.length) : ix (way S x tail j) j = x := by
  rw [ix_lt (by rw [way_len h]; omega)]
  unfold way
  rw [List.getElem_append_right (by simp; omega)]
  simp [Nat.min_eq_left h]
theorem way_left {S tail : List Int} {x : Int} {j : Nat} (h : j < S.length) : ix (way S x tail (j + 1)) j = ix S j := by
  rw [ix_lt (by rw [way_len (by omega)]; omega), ix_lt h]
  unfold way
  rw [List.getElem_append_left (by simp; omega)]
  simp
theorem way_step {S tail : List Int} {x : Int} {j : Nat} (h : j < S.length) : ((way S x tail (j + 1)).set (j + 1) (ix S j)).set j x = way S x tail j := by
  have e1 : S.take (j + 1) = S.take j ++ [ix S j] := take_ix h
  have e2 : S.drop j = ix S j :: S.drop (j + 1) := by rw [ix_lt h]; exact List.drop_eq_getElem_cons h
  have e3 : (S.take j).length = j := by simp; omega
  unfold way
  rw [e1, e2]
  generalize S.take j = a at *
  generalize S.drop (j + 1) = b at *
  subst e3
  simp
theorem way_start {S tail : List Int} {x : Int} : way S x tail S.length = S ++ x :: tail := by unfold way; simp
theorem way_end {rs S tail : List Int} {x : Int} : way S x tail (slide rs S x S.length) = insS rs S x ++ tail := by unfold way insS; simp
def tailE (n k : Nat) : List Int := (upE n).drop k
theorem tailE_step {n k : Nat} (h : k < n) : tailE n k = (k : Int) :: tailE n (k + 1) := by
  unfold tailE
  rw [List.drop_eq_getElem_cons (by rw [upE_len]; exact h)]
  congr 1
  simp [upE]
/-- the seats after t more are given in the order T -/
def giveTo (seats T : List Int) : Nat → List Int
  | 0 => seats
  | t + 1 => (giveTo seats T t).set (ix T t).toNat (ix (giveTo seats T t) (ix T t).toNat + 1)
theorem giveTo_len (seats T : List Int) (t : Nat) : (giveTo seats T t).length = seats.length := by
  induction t with
  | zero => rfl
  | succ t ih => rw [giveTo, List.length_set]; exact ih
theorem lsum_set {xs : List Int} {j : Nat} {v : Int} (h : j < xs.length) : lsum (xs.set j v) = lsum xs + (v - ix xs j) := by
  induction xs generalizing j with
  | nil => simp at h
  | cons y ys ih =>
    cases j with
    | zero => simp [lsum, ix]; omega
    | succ j =>
      have := ih (j := j) (by simpa using h)
      simp only [List.set_cons_succ, lsum, this]
      have e : ix (y :: ys) (j + 1) = ix ys j := by unfold ix; simp
      rw [e]; omega
theorem giveTo_sum {seats T : List Int} {t : Nat} (h : ∀ i, i < t → 0 ≤ ix T i ∧ ix T i < seats.length) : lsum (giveTo seats T t) = lsum seats + t := by
  induction t with
  | zero => simp [giveTo]
  | succ t ih =>
    have := h t (by omega)
    rw [giveTo, lsum_set (by rw [giveTo_len]; omega), ih (fun i hi => h i (by omega))]
    omega
theorem giveTo_bd {seats T : List Int} {m : Int} {t : Nat} (hs : ∀ i, i < seats.length → 0 ≤ ix seats i ∧ ix seats i ≤ m) (h : ∀ i, i < t → 0 ≤ ix T i ∧ ix T i < seats.length) : ∀ i, i < seats.length → 0 ≤ ix (giveTo seats T t) i ∧ ix (giveTo seats T t) i ≤ m + t := by
  induction t with
  | zero => intro i hi; have := hs i hi; simp only [giveTo]; omega
  | succ t ih =>
    intro i hi
    have h0 := h t (by omega)
    have h1 := ih (fun i hi => h i (by omega)) i hi
    have h2 := ih (fun i hi => h i (by omega)) (ix T t).toNat (by omega)
    have hl := giveTo_len seats T t
    by_cases e : i = (ix T t).toNat
    · subst e
      rw [giveTo, ix_lt (by rw [List.length_set, hl]; omega), List.getElem_set_self]
      omega
    · rw [giveTo, ix_lt (by rw [List.length_set, hl]; omega), List.getElem_set_ne (by omega), ← ix_lt (by rw [hl]; omega)]
      omega
/-- the greatest among those that are not used, as the reference looks for it: among the first k -/
def bestTo (rs : List Int) (u : Nat → Bool) : Nat → Int
  | 0 => -1
  | k + 1 => if !u k && (decide (bestTo rs u k < 0) || decide (rv rs (bestTo rs u k) < ix rs k)) then (k : Int) else bestTo rs u k
theorem best_inv (rs : List Int) (u : Nat → Bool) : ∀ k, (bestTo rs u k = -1 ∧ ∀ i, i < k → u i = true) ∨ ∃ b : Nat, bestTo rs u k = b ∧ b < k ∧ u b = false ∧ ∀ i, i < k → u i = false → i ≠ b → bef rs b i
  | 0 => .inl ⟨rfl, fun i h => absurd h (by omega)⟩
  | k + 1 => by
    have e : rv rs (k : Int) = ix rs k := by unfold rv; simp
    cases hu : u k
    · rcases best_inv rs u k with ⟨h1, h2⟩ | ⟨b, h1, h2, h3, h4⟩
      · right
        refine ⟨k, by rw [bestTo, hu, h1]; rfl, by omega, hu, fun i hi hui hne => ?_⟩
        have := h2 i (by omega)
        rw [this] at hui
        cases hui
      · by_cases hlt : rv rs (b : Int) < ix rs k
        · right
          refine ⟨k, by rw [bestTo, hu, h1, decide_eq_true hlt]; simp, by omega, hu, fun i hi hui hne => ?_⟩
          by_cases eb : i = b
          · subst eb
            left; rw [e]; exact hlt
          · have := h4 i (by omega) hui eb
            left
            rw [e]
            unfold bef at this
            omega
        · right
          refine ⟨b, by rw [bestTo, hu, h1, decide_eq_false hlt, decide_eq_false (by omega)]; rfl, by omega, h3, fun i hi hui hne => ?_⟩
          by_cases ek : i = k
          · subst ek
            unfold bef
            rw [e]
            omega
          · exact h4 i (by omega) hui hne
    · have e2 : bestTo rs u (k + 1) = bestTo rs u k := by rw [bestTo, hu]; rfl
      rw [e2]
      rcases best_inv rs u k with ⟨h1, h2⟩ | ⟨b, h1, h2, h3, h4⟩
      · left
        refine ⟨h1, fun i hi => ?_⟩
        by_cases ek : i = k
        · rw [ek]; exact hu
        · exact h2 i (by omega)
      · right
        refine ⟨b, h1, by omega, h3, fun i hi hui hne => ?_⟩
        by_cases ek : i = k
        · subst ek; rw [hu] at hui; cases hui
        · exact h4 i (by omega) hui hne
def usedB (T : List Int) (t : Nat) (j : Nat) : Bool := has (T.take t) (j : Int)
theorem best_next {rs : List Int} {n t : Nat} (h : t < n) : bestTo rs (usedB (sortS rs n) t) n = ix (sortS rs n) t := by
  have hl := sortS_len rs n
  have hnd : (sortS rs n).Pairwise (· ≠ ·) := (sortS_sorted rs n).imp fun h e => by subst e; exact bef_asymm h h
  have ht := sortS_at (rs := rs) h
  have huu : ∀ j : Nat, j < n → (usedB (sortS rs n) t j = true ↔ ∃ i, i < t ∧ ix (sortS rs n) i = (j : Int)) := by
    intro j hj
    unfold usedB
    rw [has_iff]
    constructor
    · intro hm
      obtain ⟨i, hi, e⟩ := List.getElem_of_mem hm
      rw [List.length_take] at hi
      rw [List.getElem_take] at e
      exact ⟨i, by omega, by rw [ix_lt (by omega)]; exact e⟩
    · rintro ⟨i, hi, e⟩
      rw [ix_lt (by omega)] at e
      exact List.mem_iff_getElem.2 ⟨i, by rw [List.length_take]; omega, by rw [List.getElem_take]; exact e⟩
  have hne : ∀ i, i < n → i ≠ t → ix (sortS rs n) i ≠ ix (sortS rs n) t := by
    intro i hi hit e
    rcases Nat.lt_or_gt_of_ne hit with hlt | hlt
    · have := sortS_bef (rs := rs) hlt h
      rw [e] at this
      exact bef_asymm this this
    · have := sortS_bef (rs := rs) hlt hi
      rw [e] at this
      exact bef_asymm this this
  obtain ⟨j, hj⟩ : ∃ j : Nat, ix (sortS rs n) t = (j : Int) := ⟨(ix (sortS rs n) t).toNat, by omega⟩
  have hjn : j < n := by omega
  have hju : usedB (sortS rs n) t j = false := by
    cases hc : usedB (sortS rs n) t j
    · rfl
    · obtain ⟨i, hi, e⟩ := (huu j hjn).1 hc
      exact absurd (e.trans hj.symm) (hne i (by omega) (by omega))
  rw [hj]
  rcases best_inv rs (usedB (sortS rs n) t) n with ⟨_, h2⟩ | ⟨b, h1, h2, h3, h4⟩
  · rw [h2 j hjn] at hju; cases hju
  · rw [h1]
    by_cases e : j = b
    · rw [e]
    · exfalso
      have hb := h4 j hjn hju e
      have hbm : (b : Int) ∈ sortS rs n := sortS_mem.2 ⟨by omega, by omega⟩
      obtain ⟨s, hs, es⟩ := List.getElem_of_mem hbm
      rw [hl] at hs
      rw [← ix_lt (by omega)] at es
      have hst : t < s := by
        rcases Nat.lt_trichotomy t s with h0 | h0 | h0
        · exact h0
        · subst h0; omega
        · have := (huu b h2).2 ⟨s, h0, es⟩
          rw [this] at h3; cases h3
      have := sortS_bef (rs := rs) hst hs
      rw [hj, es] at this
      exact bef_asymm this hb
end Go.Proofs.YtaanppihgldeaaaGreatDoor
namespace Go.Proofs.YtaanppihgldeaaaGreatDoor
set_option linter.unusedSimpArgs false
set_option linter.unusedVariables false
set_option linter.unusedVariables false
open Go.RowKit

theorem only_drewN {lo hi : Nat} (w : World) (m : Nat) : Only lo hi w (w.drewN m) := Only.of_below (B := w.heap.size) (below_of_drewN rfl) (Nat.le_refl _)
/-- what the comparison reads: the slice of what is left, in a cell -/
structure RestAt (w : World) (gb : Nat) (B : Option Addr) (l d : Nat) (rs : List Int) : Prop where
  c0 : w.cell? ⟨gb, 0, none⟩ = some (.slice B l d)
  r : IntsAt w B l rs
theorem RestAt.only {w w' : World} {gb l d g : Nat} {B : Option Addr} {rs : List Int} (h : RestAt w gb B l d rs) (ho : Only g (g + 1) w w') (h1 : gb ≠ g) (h2 : ∀ a, B = some a → 0 < l → a.block ≠ g) : RestAt w' gb B l d rs := by
  refine ⟨ho.cell h.c0 (by show ¬ (g ≤ gb ∧ gb < g + 1); omega), h.r.1, fun hn => ?_⟩
  obtain ⟨b, o, e, hc⟩ := h.r.2 hn
  have := h2 _ e hn
  simp at this
  exact ⟨b, o, e, fun j hj => ho.cell (hc j hj) (by simp; omega)⟩
theorem RestAt.drewN {w : World} {gb l d : Nat} {B : Option Addr} {rs : List Int} (h : RestAt w gb B l d rs) (m : Nat) : RestAt (w.drewN m) gb B l d rs := ⟨h.c0, h.r⟩
set_option maxHeartbeats 800000 in
theorem filledCmp_any (a b : Nat) {gb l d : Nat} {B : Option Addr} {rs : List Int} (w : World) (K : RestAt w gb B l d rs) (ha : a < l) (hb : b < l) (hr : ∀ i, i < l → 0 ≤ ix rs i ∧ ix rs i ≤ 1000000000) :
    Calls Tryz.prog 166 #[.int .i64 (a : Int), .int .i64 (b : Int), .pointer (some ⟨gb, 0, none⟩)] w fun e w' => e = .returned (.int .i64 (rv rs b - rv rs a)) ∧ ∃ q, w' = w.drewN q := by
  obtain ⟨c0, r⟩ := K
  obtain ⟨bo, oo, rfl, _, hc⟩ := r.at_ ha
  have ca := hc a ha
  have cb := hc b hb
  have ba := hr a ha
  have bb := hr b hb
  have e1 : rv rs (a : Int) = ix rs a := by unfold rv; simp
  have e2 : rv rs (b : Int) = ix rs b := by unfold rv; simp
  rw [e1, e2]
  clear hc r hr e1 e2
  have a1 : (0 : Int) ≤ (a : Int) := by omega
  have a2 : (a : Int) < (l : Int) := by omega
  have b1 : (0 : Int) ≤ (b : Int) := by omega
  have b2 : (b : Int) < (l : Int) := by omega
  generalize ix rs a = x at *
  generalize ix rs b = y at *
  go_enter Tryz.func166, Tryz.ntmps166
  go_wp2
  go_quiet (fail)
  go_wp2
  go_ret
  exact ⟨rfl, _, rfl⟩
set_option maxRecDepth 100000 in
set_option maxHeartbeats 2000000 in
theorem insertion_any (g c n lo hi : Nat) {gb l d : Nat} {B : Option Addr} {rs : List Int} (w : World) (ho : OwnI w lo hi (.slice (some ⟨g, 0, none⟩) n c) (upE n)) (K : RestAt w gb B l d rs) (h1 : gb ≠ g) (h2 : ∀ a, B = some a → 0 < l → a.block ≠ g)
    (hn : 1 ≤ n) (hn6 : n ≤ 6) (hl : n ≤ l) (hr : ∀ i, i < l → 0 ≤ ix rs i ∧ ix rs i ≤ 1000000000) :
    Calls Tryz.prog 229 #[.slice (some ⟨g, 0, none⟩) n c, .int .i64 0, .int .i64 (n : Int), .func (.func 166) #[] #[.pointer (some ⟨gb, 0, none⟩)]] w fun e w' =>
      (∃ v, e = .returned v) ∧ OwnI w' lo hi (.slice (some ⟨g, 0, none⟩) n c) (sortS rs n) ∧ Only g (g + 1) w w' := by
  have HR := Lib.hid hr
  have H2 := Lib.hid h2
  clear hr h2
  go_enter Tryz.func229, Tryz.ntmps229
  go_wp2
  go_loopw [8, 9] (fun i_ _ wr => ∃ i : Nat, 1 ≤ i ∧ i ≤ n ∧ i_ = .int .i64 i ∧ OwnI wr lo hi (.slice (some ⟨g, 0, none⟩) n c) (sortS rs i ++ tailE n i) ∧ Only g (g + 1) w wr) (fun i_ _ _ => n - (intOf i_).toNat)
  case atStart => exact ⟨1, by omega, by omega, rfl, by rw [show sortS rs 1 ++ tailE n 1 = upE n from by have := tailE_step (n := n) (k := 0) (by omega); unfold tailE at this ⊢; rw [List.drop_zero] at this; rw [this]; rfl]; exact ho, Only.refl _ _ _⟩
  case round =>
    obtain ⟨i, i1, i2, rfl, hown, hon⟩ := hrel
    obtain ⟨wo, rfl⟩ : ∃ wo, wo = wr := ⟨_, rfl⟩
    by_cases hlt : i < n
    · have hST : sortS rs i ++ tailE n i = way (sortS rs i) (i : Int) (tailE n (i + 1)) i := by
        have := way_start (S := sortS rs i) (x := (i : Int)) (tail := tailE n (i + 1))
        rw [sortS_len] at this
        rw [this, tailE_step hlt]
      rw [hST] at hown
      have HEND : Hid (way (sortS rs i) (i : Int) (tailE n (i + 1)) (slide rs (sortS rs i) (i : Int) i) = sortS rs (i + 1) ++ tailE n (i + 1)) := by
        have := way_end (rs := rs) (S := sortS rs i) (tail := tailE n (i + 1)) (x := (i : Int))
        rw [sortS_len] at this
        exact this
      have HAT := Lib.hid (fun j => sortS_at (rs := rs) (k := i) (j := j))
      have hSL := sortS_len rs i
      have hsl := slide_le rs (sortS rs i) (i : Int) i
      clear hST
      generalize sortS rs i = S at *
      obtain ⟨tl, htl⟩ : ∃ tl, tailE n (i + 1) = tl := ⟨_, rfl⟩
      rw [htl] at hown HEND
      have HTL := Lib.hid htl
      clear htl
      obtain ⟨p, hp⟩ : ∃ p, slide rs S (i : Int) i = p := ⟨_, rfl⟩
      have HP := Lib.hid hp
      have HSL := Lib.hid hSL
      rw [hp] at hsl HEND
      clear hp hSL
      go_wp2
      go_loopw [9] (fun j_ wr => ∃ j : Nat, p ≤ j ∧ j ≤ i ∧ slide rs S (i : Int) j = p ∧ j_ = .int .i64 j ∧ OwnI wr lo hi (.slice (some ⟨g, 0, none⟩) n c) (way S (i : Int) tl j) ∧ Only g (g + 1) w wr) (fun j_ _ => (intOf j_).toNat)
      case atStart => exact ⟨i, hsl, Nat.le_refl _, HP.out, rfl, hown, hon⟩
      case round =>
        obtain ⟨j, j1, j2, hpj, rfl, hown, hon⟩ := hrel
        have HPJ := Lib.hid hpj
        clear hpj
        cases j with
        | zero =>
          have hp0 : p = 0 := by omega
          have e0 : decide ((0 : Int) < ((0 : Nat) : Int)) = false := rfl
          have HE := Lib.hid (show way S (i : Int) tl 0 = sortS rs (i + 1) ++ tl from by rw [← HEND.out, hp0])
          rw [HE.out] at hown
          clear hp0 j1
          go_wp2
          go_quiet (fail)
          go_wp2
          go_roundw
          case rel => exact ⟨i + 1, by omega, by omega, by go_num, by rw [HTL.out]; exact hown, hon.trans (only_drewN _ _)⟩
          case measure => simp [intOf]; omega
        | succ j =>
          have t0 : (0 : Int) < ((j + 1 : Nat) : Int) := by omega
          have hjS : j < S.length := by rw [HSL.out]; omega
          have cx := hown.cellAt (j + 1) (by omega)
          rw [way_at (by omega)] at cx
          have cy := hown.cellAt j (by omega)
          rw [way_left hjS] at cy
          have by_ := HAT.out j (by omega)
          obtain ⟨y, hy⟩ : ∃ y : Nat, ix S j = (y : Int) := ⟨(ix S j).toNat, by omega⟩
          have hyi : y < i := by omega
          rw [hy] at cy
          have K1 := Lib.hid (fun q => Calls.quiet_of (n := q) (filledCmp_any i y (wr.drewN q) ((K.only hon h1 H2.out).drewN q) (by omega) (by omega) HR.out))
          have q1 : IntKind.i64.wrap (((j + 1 : Nat) : Int) - 1) = (j : Int) := by rw [IntWalk.i64_in _ (by omega)]; omega
          have q2 : ((j + 1 : Nat) : Int) - 1 = (j : Int) := by omega
          have q3 : (j : Int) < (n : Int) := by omega
          have q4 : ((j + 1 : Nat) : Int) < (n : Int) := by omega
          obtain ⟨dd, hdd⟩ : ∃ dd, rv rs (y : Int) - rv rs (i : Int) = dd := ⟨_, rfl⟩
          rw [hdd] at K1
          by_cases hlt2 : rv rs (y : Int) < rv rs (i : Int)
          · have hpj2 : slide rs S (i : Int) j = p := by have := HPJ.out; unfold slide at this; rw [hy, if_pos hlt2] at this; exact this
            have hpl : p ≤ j := by rw [← hpj2]; exact slide_le _ _ _ _
            have HPJ2 := Lib.hid hpj2
            have t5 : decide (dd < 0) = true := decide_eq_true (by omega)
            have hws := way_step (x := (i : Int)) (tail := tl) hjS
            rw [hy] at hws
            have HWS := Lib.hid hws
            clear hlt2 hdd hpj2 hws hy HPJ by_
            go_wp2
            go_quiet ((first | (with_reducible exact K1.out _)))
            have hown2 : OwnI (wr.drewN nq) lo hi (.slice (some ⟨g, 0, none⟩) n c) (way S (i : Int) tl (j + 1)) := hown
            have hon2 := hon.trans (only_drewN (lo := g) (hi := g + 1) wr nq)
            have cx2 : (wr.drewN nq).cell? ⟨g, j + 1, none⟩ = some (.int .i64 (i : Int)) := cx
            have cy2 : (wr.drewN nq).cell? ⟨g, j, none⟩ = some (.int .i64 (y : Int)) := cy
            clear cx cy hown hon K1
            generalize wr.drewN nq = w3 at *
            have fx := hown2.frozenAt (j + 1)
            have fy := hown2.frozenAt j
            go_wp2
            go_region
            obtain ⟨oa, na⟩ := hown2.stored (j + 1) (y : Int)
            obtain ⟨ob, nb⟩ := oa.stored j (i : Int)
            rw [HWS.out] at ob
            have hon3 := Lib.hid ((hon2.trans (na.trans nb)).trans (only_drewN (lo := g) (hi := g + 1) _ 1))
            have OB := Lib.hid ob
            clear oa na nb ob hown2 hon2 cx2 cy2 fx fy
            go_wp2
            go_roundw
            case rel => exact ⟨j, hpl, by omega, HPJ2.out, by go_num, OB.out, hon3.out⟩
            case measure => simp [intOf] <;> omega
          · have t5 : decide (dd < 0) = false := decide_eq_false (by omega)
            have hpj2 : j + 1 = p := by have := HPJ.out; unfold slide at this; rw [hy, if_neg hlt2] at this; exact this
            have HE := Lib.hid (show way S (i : Int) tl (j + 1) = sortS rs (i + 1) ++ tl from by rw [← HEND.out, hpj2])
            rw [HE.out] at hown
            clear hlt2 hdd hpj2 hy HPJ by_
            go_wp2
            go_quiet ((first | (with_reducible exact K1.out _)))
            clear cx cy
            go_wp2
            go_roundw
            case rel => exact ⟨i + 1, by omega, by omega, by go_num, by rw [HTL.out]; exact hown, hon.trans (only_drewN _ _)⟩
            case measure => simp [intOf]; omega
    · obtain rfl : i = n := by omega
      have e : sortS rs i ++ tailE i i = sortS rs i := by unfold tailE; rw [List.drop_eq_nil_of_le (by rw [upE_len]; exact Nat.le_refl _), List.append_nil]
      rw [e] at hown
      go_wp2
      go_end0
      exact ⟨⟨_, rfl⟩, hown, hon⟩
set_option maxRecDepth 100000 in
set_option maxHeartbeats 1000000 in
theorem stable_any (g c n lo hi : Nat) {gb l d : Nat} {B : Option Addr} {rs : List Int} (w : World) (ho : OwnI w lo hi (.slice (some ⟨g, 0, none⟩) n c) (upE n)) (K : RestAt w gb B l d rs) (h1 : gb ≠ g) (h2 : ∀ a, B = some a → 0 < l → a.block ≠ g)
    (hn : 1 ≤ n) (hn6 : n ≤ 6) (hl : n ≤ l) (hr : ∀ i, i < l → 0 ≤ ix rs i ∧ ix rs i ≤ 1000000000) :
    Calls Tryz.prog 207 #[.slice (some ⟨g, 0, none⟩) n c, .int .i64 (n : Int), .func (.func 166) #[] #[.pointer (some ⟨gb, 0, none⟩)]] w fun e w' =>
      (∃ v, e = .returned v) ∧ OwnI w' lo hi (.slice (some ⟨g, 0, none⟩) n c) (sortS rs n) ∧ Only g (g + 1) w w' := by
  have HI := Lib.hid (insertion_any g c n lo hi w ho K h1 h2 hn hn6 hl hr)
  clear hr h2 ho K
  go_enter Tryz.func207, Tryz.ntmps207
  go_wp2
  go_loopw [7, 8] (fun a_ b_ wr => a_ = .int .i64 0 ∧ b_ = .int .i64 20 ∧ wr = w) (fun _ _ _ => 0)
  case atStart => exact ⟨rfl, rfl, rfl⟩
  case round =>
    obtain ⟨rfl, rfl, rfl⟩ := hrel
    have t0 : ¬ ((20 : Int) ≤ (n : Int)) := by omega
    go_wp2_with fail
    (with_reducible refine HI.out.mono ?_)
    rintro e w2 ⟨⟨v, rfl⟩, ho2, hon⟩
    have t1 : ¬ ((20 : Int) < (n : Int)) := by omega
    go_wp2
    go_loopw [6, 7, 8, 9] (fun s_ _ _ _ wr => s_ = .int .i64 20 ∧ wr = w2) (fun _ _ _ _ _ => 0)
    case atStart => exact ⟨rfl, rfl⟩
    case round =>
      obtain ⟨rfl, rfl⟩ := hrel
      go_wp2
      go_end0
      exact ⟨⟨_, rfl⟩, ho2, hon⟩
theorem sortStable_any (g c n lo hi : Nat) {gb l d : Nat} {B : Option Addr} {rs : List Int} (w : World) (ho : OwnI w lo hi (.slice (some ⟨g, 0, none⟩) n c) (upE n)) (K : RestAt w gb B l d rs) (h1 : gb ≠ g) (h2 : ∀ a, B = some a → 0 < l → a.block ≠ g)
    (hn : 1 ≤ n) (hn6 : n ≤ 6) (hl : n ≤ l) (hr : ∀ i, i < l → 0 ≤ ix rs i ∧ ix rs i ≤ 1000000000) :
    Calls Tryz.prog 165 #[.slice (some ⟨g, 0, none⟩) n c, .func (.func 166) #[] #[.pointer (some ⟨gb, 0, none⟩)]] w fun e w' =>
      (∃ v, e = .returned v) ∧ OwnI w' lo hi (.slice (some ⟨g, 0, none⟩) n c) (sortS rs n) ∧ Only g (g + 1) w w' := by
  have HI := Lib.hid (stable_any g c n lo hi w ho K h1 h2 hn hn6 hl hr)
  clear hr h2 ho K
  go_enter Tryz.func165, Tryz.ntmps165
  go_wp2_with fail
  (with_reducible refine HI.out.mono ?_)
  rintro e w2 ⟨⟨v, rfl⟩, ho2, hon⟩
  go_wp2
  go_end0
  exact ⟨⟨_, rfl⟩, ho2, hon⟩
end Go.Proofs.YtaanppihgldeaaaGreatDoor
