/- PlayReplies, the program's side. PlayReplies, the reference's side. -/
import Derived.Test.YtcjnjnegaoihoaaGreatW30
namespace Go.Proofs.YtcjnjnegaoihoaaGreat
set_option linter.unusedSimpArgs false
set_option linter.unusedVariables false
set_option linter.unusedVariables false
open Go.RowKit

noncomputable def gainsT (rule m : Int) (vs : List Vt) (k : Nat) (truth : List Int) : Bool := pref truth (replyW rule m vs k truth) (winnerR rule m vs)
noncomputable def betterO (rule m : Int) (vs : List Vt) (k : Nat) (truth : List Int) : Option (List Int) := if gainsT rule m vs k truth then some (replyR rule m vs k truth) else none
set_option maxRecDepth 100000 in
set_option maxHeartbeats 1000000 in
theorem implBetterFor (rule m : Int) (A : Option Addr) (n c : Nat) (vs : List Vt) (k : Nat) (B : Option Addr) (d : Nat) (truth : List Int) (w : World) (h : VotesAt w A n vs) (hn : n ≤ 1048576) (hx : ∀ v ∈ vs, v.r.length ≤ 1048576) (hg : playB rule m vs = true) (hk : k < n) (g : IntsAt w B truth.length truth) (ht : rankOk m truth = true) :
    Calls Tryz.prog 34 #[.int .i64 rule, .agg #[.int .i64 m, .slice A n c], .int .i64 (k : Int), .slice B truth.length d] w fun e w' => ∃ u, e = .returned u ∧ WayAt w' w.heap.size w'.heap.size u (betterO rule m vs k truth) ∧ Below w.heap.size w w' := by
  have g00 := g
  obtain rfl := h.len
  have hB := alloc_below w (.cells #[.int .i64 m, .slice A vs.length c] 31)
  obtain ⟨x0, x1⟩ := PBox.new w m A vs.length c 31 rfl
  replace h := h.below hB
  generalize hw0 : w.alloc (.cells #[.int .i64 m, .slice A vs.length c] 31) = w0 at *
  have g0 := g00.below hB
  obtain ⟨hp, m4, r1, r13⟩ := playB_iff.1 hg
  have F := pf_of hp
  have RF := reply_facts (rule := rule) (truth := truth) hp hk r1 r13 ht
  have KW := Lib.hid (fun W hW => implWaysTo rule m A vs.length c vs k W hW hn hx hp hk r1 r13)
  have KN := Lib.hid (fun W hW => implWinnerBy rule m A vs.length c vs W hW hn hx)
  obtain ⟨M, rfl⟩ : ∃ M : Nat, m = (M : Int) := ⟨m.toNat, by have := F.m1; omega⟩
  rw [Int.toNat_natCast] at KW
  have TB := Lib.hid (rankOk_facts ht).2.2.2
  have tl : truth.length ≤ 5 := by have := (rankOk_facts ht).2; omega
  have HW : Hid (replyW rule (M : Int) vs k truth = ix truth (replyI rule (M : Int) vs k truth)) := rfl
  have HWAY := Lib.hid RF.way
  have HID := Lib.hid RF.idx
  have hlt := RF.lt
  have HBO : Hid (betterO rule (M : Int) vs k truth = if pref truth (replyW rule (M : Int) vs k truth) (winnerR rule (M : Int) vs) then some (replyR rule (M : Int) vs k truth) else none) := rfl
  have hrl : 0 < (replyR rule (M : Int) vs k truth).length := by have := (rankOk_facts RF.ok).2.2.1; have := F.m1; omega
  generalize betterO rule (M : Int) vs k truth = BO at *
  generalize replyR rule (M : Int) vs k truth = rep at *
  generalize replyI rule (M : Int) vs k truth = J at *
  generalize replyW rule (M : Int) vs k truth = Wn at *
  generalize winnerR rule (M : Int) vs = W0 at *
  have STP := Lib.hid (fun i hi => idxP_step (reachB rule (M : Int) vs k) truth i hi)
  have EN := Lib.hid (idxP_end (reachB rule (M : Int) vs k) truth truth.length (Nat.le_refl _))
  clear RF F hp hg hx g g00
  go_enter Tryz.func34, Tryz.ntmps34
  go_wp2_with fail
  (with_reducible refine (KW.out _ h).mono ?_)
  rintro e w2 ⟨g2, c2, rfl, hways, b2⟩
  replace x0 := cell_carry b2 x0
  replace x1 := cell_carry b2 x1
  replace h := h.below b2
  replace g0 := g0.below b2
  have s1 := hB.size
  replace hB := hB.trans (b2.mono hB.size)
  clear b2 KW hw0
  go_wp2
  go_loopw [11, 18] (fun _ i wr => ∃ q : Nat, q ≤ truth.length ∧ i = .int .i64 q ∧ Hid (idxP (reachB rule (M : Int) vs k) truth 0 = idxP (reachB rule (M : Int) vs k) truth q) ∧ wr = w2) (fun _ i _ => truth.length - (intOf i).toNat)
  case atStart => exact ⟨0, Nat.zero_le _, rfl, rfl, rfl⟩
  case round =>
    obtain ⟨q, hq, rfl, HQ, rfl⟩ := hrel
    by_cases hlq : q < truth.length
    · obtain ⟨br, orr, rfl, _, hcr⟩ := g0.at_ hlq
      have d1 := hcr q hlq
      have tb := TB.out q hlq
      have HST := Lib.hid (STP.out q hlq)
      obtain ⟨a, ha⟩ : ∃ a : Nat, ix truth q = (a : Int) := ⟨(ix truth q).toNat, by omega⟩
      rw [ha] at d1 HST tb
      have HAX := Lib.hid ha
      have haM : a < M := by omega
      have hai : (a : Int) < (M : Int) := by omega
      obtain ⟨u, cu, _, hu⟩ := hways.cell a haM
      clear hcr ha tb
      rcases hu.form with ⟨hnone, rfl⟩ | ⟨rr, gg, cc, hsome, rfl, how, _⟩
      · have he := run_neq_slice_nil_any (P := Tryz.prog) wr 26 3 none 0 0 0 0 Tryz.underlying26
        simp only [Option.isNone_none, Bool.not_true] at he
        have he2 : (!(none : Option Addr).isNone) = false := rfl
        have HN : Hid (idxP (reachB rule (M : Int) vs k) truth 0 = idxP (reachB rule (M : Int) vs k) truth (q + 1)) := by
          show _ = _
          rw [HQ.out, HST.out, reachB_def, hnone]; rfl
        clear hnone hu
        go_wp2
        go_roundw
        case rel => exact ⟨q + 1, by omega, by go_num, HN, by trivial⟩
        case measure => simp [intOf]; omega
      · have he := run_neq_slice_nil_any (P := Tryz.prog) wr 26 3 (some ⟨gg, 0, none⟩) rr.length cc 0 0 Tryz.underlying26
        simp only [Option.isNone_some, Bool.not_false] at he
        have he2 : (!(some (⟨gg, 0, none⟩ : Addr)).isNone) = true := rfl
        have hqJ : q = J := by
          have h1 := HQ.out
          rw [HST.out, reachB_def, hsome, HID.out] at h1
          simp at h1
          omega
        have haw : Wn = (a : Int) := by rw [HW.out, ← hqJ, HAX.out]
        have hrep : rr = rep := by
          have h1 := HWAY.out
          rw [haw, hsome] at h1
          exact Option.some.inj h1
        subst hrep
        have KB := Lib.hid (KN.out wr h)
        have KP := Lib.hid (fun W hW => implPrefers (some ⟨br, orr, none⟩) truth.length d truth (a : Int) W0 W hW (by omega))
        rw [haw] at HBO
        generalize pref truth (a : Int) W0 = gb at *
        have cu' := cu
        clear hsome hqJ haw KN
        go_wp2_with fail
        (with_reducible refine KB.out.mono ?_)
        rintro e w5 ⟨rfl, b5⟩
        replace cu := cell_carry b5 cu
        replace g0 := g0.below b5
        have s5 := b5.size
        replace hB := hB.trans (b5.mono hB.size)
        have HOW := Lib.hid (((how.belowW b5).mono s1 s5))
        go_wp2_with fail
        (with_reducible refine (KP.out _ g0).mono ?_)
        rintro e w6 ⟨rfl, rfl⟩
        clear b5 hu how KB KP
        cases gb
        · go_wp2
          go_ret
          refine ⟨_, rfl, ?_, hB⟩
          rw [HBO.out]; rfl
        · go_wp2
          go_ret
          refine ⟨_, rfl, ?_, hB⟩
          have hbo := HBO.out
          simp only [if_true] at hbo
          rw [hbo]
          exact ⟨HOW.out, hrl⟩
    · exfalso
      have h1 := HQ.out
      obtain rfl : q = truth.length := by omega
      rw [EN.out, HID.out] at h1
      omega
noncomputable def playStep (rule m : Int) (vs now : List Vt) (k : Nat) : List Vt :=
  if gainsT rule m now k (vx vs k).r then setR now k (replyR rule m now k (vx vs k).r) else now
noncomputable def playRow (rule m : Int) (vs now : List Vt) : Nat → List Vt
  | 0 => now
  | k + 1 => playStep rule m vs (playRow rule m vs now k) k
noncomputable def playTo (rule m : Int) (vs : List Vt) : Nat → List Vt
  | 0 => vs
  | i + 1 => playRow rule m vs (playTo rule m vs i) vs.length
theorem playStep_ok {rule m : Int} {vs now : List Vt} {k : Nat} (h : playB rule m now = true) (hl : now.length = vs.length) (hp : profOk m vs = true) (hk : k < vs.length) : playB rule m (playStep rule m vs now k) = true ∧ (playStep rule m vs now k).length = vs.length := by
  obtain ⟨h1, h2, h3, h4⟩ := playB_iff.1 h
  unfold playStep
  split
  · have RF := reply_facts (rule := rule) (vs := now) (k := k) (truth := (vx vs k).r) h1 (by omega) h3 h4 ((pf_of hp).r _ (vx_mem hk))
    exact ⟨playB_iff.2 ⟨setR_ok h1 (by omega) RF.ok, h2, h3, h4⟩, by rw [setR_len]; exact hl⟩
  · exact ⟨h, hl⟩
theorem playRow_ok {rule m : Int} {vs now : List Vt} (h : playB rule m now = true) (hl : now.length = vs.length) (hp : profOk m vs = true) : ∀ k, k ≤ vs.length → playB rule m (playRow rule m vs now k) = true ∧ (playRow rule m vs now k).length = vs.length
  | 0, _ => ⟨h, hl⟩
  | k + 1, hk => by
    have ih := playRow_ok h hl hp k (by omega)
    exact playStep_ok ih.1 ih.2 hp (by omega)
theorem playTo_ok {rule m : Int} {vs : List Vt} (h : playB rule m vs = true) : ∀ i, playB rule m (playTo rule m vs i) = true ∧ (playTo rule m vs i).length = vs.length
  | 0 => ⟨h, rfl⟩
  | i + 1 => playRow_ok (playTo_ok h i).1 (playTo_ok h i).2 (playB_iff.1 h).1 _ (Nat.le_refl _)
def playOk (rule m : Int) (vs : List Vt) (rounds : Int) : Bool := playB rule m vs && inB rounds 0 5
noncomputable def playM (rule m : Int) (vs : List Vt) (rounds : Int) : Int := if playOk rule m vs rounds then m else 0
noncomputable def playV (rule m : Int) (vs : List Vt) (rounds : Int) : List Vt := if playOk rule m vs rounds then playTo rule m vs rounds.toNat else []
set_option maxRecDepth 100000 in
set_option maxHeartbeats 2000000 in
theorem implPlayReplies (rule m : Int) (A : Option Addr) (n c : Nat) (vs : List Vt) (rounds : Int) (w : World) (h : VotesAt w A n vs) (hn : n ≤ 1048576) (hx : ∀ v ∈ vs, v.r.length ≤ 1048576) :
    Calls Tryz.prog 15 #[.int .i64 rule, .agg #[.int .i64 m, .slice A n c], .int .i64 rounds] w fun e w' => ∃ A' c', e = .returned (.tuple #[.agg #[.int .i64 (playM rule m vs rounds), .slice A' (playV rule m vs rounds).length c'], .bool (playOk rule m vs rounds)]) ∧ OwnV w' w.heap.size w'.heap.size (.slice A' (playV rule m vs rounds).length c') (playV rule m vs rounds) ∧ Below w.heap.size w w' := by
  have hv0 := h
  obtain rfl := h.len
  have hB := alloc_below w (.cells #[.int .i64 m, .slice A vs.length c] 31)
  obtain ⟨x0, x1⟩ := PBox.new w m A vs.length c 31 rfl
  replace h := h.below hB
  generalize hw0 : w.alloc (.cells #[.int .i64 m, .slice A vs.length c] 31) = w0 at *
  have s0 : w0.heap.size = w.heap.size + 1 := by rw [← hw0]; simp
  have b1 := alloc_below w0 (.cells #[.int .i64 0, .slice none 0 0] 31)
  obtain ⟨r0, r1⟩ := PBox.new w0 0 none 0 0 31 rfl
  have rf0 := new_free w0 #[.int .i64 0, .slice none 0 0] 31 rfl 0
  have rf1 := new_free w0 #[.int .i64 0, .slice none 0 0] 31 rfl 1
  replace x0 := cell_carry b1 x0
  replace x1 := cell_carry b1 x1
  replace h := h.below b1
  replace hB := hB.trans (b1.mono hB.size)
  have s1 : w0.heap.size < (w0.alloc (.cells #[.int .i64 0, .slice none 0 0] 31)).heap.size := by simp
  have s01 : w.heap.size < w0.heap.size := by omega
  clear b1 s0
  generalize hw1 : w0.alloc (.cells #[.int .i64 0, .slice none 0 0] 31) = w1 at *
  have K := Lib.hid (implPlayable rule m A vs.length c vs w1 h hn hx)
  unfold playM playV playOk
  cases hpl : playB rule m vs
  · rw [hpl] at K
    simp only [Bool.false_and, Bool.false_eq_true, if_false, List.length_nil]
    clear hx hpl
    go_enter Tryz.func15, Tryz.ntmps15
    go_wp2_with fail
    (with_reducible refine K.out.mono ?_)
    rintro e w2 ⟨rfl, b2⟩
    replace rf0 := (b2.frozen (p := ⟨w0.heap.size, 0, none⟩) (cell_lt r0)).trans rf0
    replace rf1 := (b2.frozen (p := ⟨w0.heap.size, 1, none⟩) (cell_lt r1)).trans rf1
    replace r0 := cell_carry b2 r0
    replace r1 := cell_carry b2 r1
    replace hB := hB.trans (b2.mono hB.size)
    have E2 := Lib.hid (pair_set r0 r1 (.int .i64 0) (.slice none 0 0))
    have HB := Lib.hid ((hB.setCell (p := ⟨w0.heap.size, 0, none⟩) (by show w.heap.size ≤ w0.heap.size; omega) (.int .i64 0)).setCell (p := ⟨w0.heap.size, 1, none⟩) (by show w.heap.size ≤ w0.heap.size; omega) (.slice none 0 0))
    clear b2 K hw1 hw0
    go_wp2
    obtain ⟨e0, e1⟩ := E2.out
    exact bodyPost_ret (v := .tuple #[.agg #[.int .i64 0, .slice none 0 0], .bool false]) (by simp [results, Tryz.results15, go_sem, e0, e1]) rfl ⟨_, _, rfl, OwnV.nil _ _ _, HB.out⟩
  rw [hpl] at K
  cases hr : inB rounds 0 5
  · simp only [Bool.true_and, Bool.false_eq_true, if_false, List.length_nil]
    clear hx hpl
    go_enter Tryz.func15, Tryz.ntmps15
    go_wp2_with fail
    (with_reducible refine K.out.mono ?_)
    rintro e w2 ⟨rfl, b2⟩
    replace rf0 := (b2.frozen (p := ⟨w0.heap.size, 0, none⟩) (cell_lt r0)).trans rf0
    replace rf1 := (b2.frozen (p := ⟨w0.heap.size, 1, none⟩) (cell_lt r1)).trans rf1
    replace r0 := cell_carry b2 r0
    replace r1 := cell_carry b2 r1
    replace hB := hB.trans (b2.mono hB.size)
    go_wp2_with fail
    (with_reducible refine (within_any _ _ _ _).mono ?_)
    rintro e w3 ⟨rfl, rfl⟩
    rw [hr]
    have E2 := Lib.hid (pair_set r0 r1 (.int .i64 0) (.slice none 0 0))
    have HB := Lib.hid ((hB.setCell (p := ⟨w0.heap.size, 0, none⟩) (by show w.heap.size ≤ w0.heap.size; omega) (.int .i64 0)).setCell (p := ⟨w0.heap.size, 1, none⟩) (by show w.heap.size ≤ w0.heap.size; omega) (.slice none 0 0))
    clear b2 K hw1 hw0 hr
    go_wp2
    obtain ⟨e0, e1⟩ := E2.out
    exact bodyPost_ret (v := .tuple #[.agg #[.int .i64 0, .slice none 0 0], .bool false]) (by simp [results, Tryz.results15, go_sem, e0, e1]) rfl ⟨_, _, rfl, OwnV.nil _ _ _, HB.out⟩
  simp only [Bool.and_self, if_true]
  obtain ⟨R, rfl, R5⟩ : ∃ R : Nat, rounds = (R : Int) ∧ R ≤ 5 := by
    have := inB_iff.1 hr
    exact ⟨rounds.toNat, by omega, by omega⟩
  rw [Int.toNat_natCast]
  have hp := (playB_iff.1 hpl).1
  have F := pf_of hp
  have PO := Lib.hid (fun i => playTo_ok hpl i)
  have PR := Lib.hid (fun i k hk => playRow_ok (rule := rule) (vs := vs) (playTo_ok hpl i).1 (playTo_ok hpl i).2 hp k hk)
  have KC := Lib.hid (fun W hW => implClone m A vs.length c vs W hW hn hx)
  have FR := Lib.hid (fun k (hk : k < vs.length) => (F.r _ (vx_mem hk)))
  have pl : (playTo rule m vs R).length = vs.length := (playTo_ok hpl R).2
  rw [pl]
  clear hx hp F hpl pl
  go_enter Tryz.func15, Tryz.ntmps15
  go_wp2_with fail
  (with_reducible refine K.out.mono ?_)
  rintro e w2 ⟨rfl, b2⟩
  have s2 := b2.size
  replace rf0 := (b2.frozen (p := ⟨w0.heap.size, 0, none⟩) (cell_lt r0)).trans rf0
  replace rf1 := (b2.frozen (p := ⟨w0.heap.size, 1, none⟩) (cell_lt r1)).trans rf1
  replace r0 := cell_carry b2 r0
  replace r1 := cell_carry b2 r1
  replace x0 := cell_carry b2 x0
  replace x1 := cell_carry b2 x1
  replace h := h.below b2
  replace hB := hB.trans (b2.mono hB.size)
  clear b2 K hw1 hw0
  go_wp2_with fail
  (with_reducible refine (within_any _ _ _ _).mono ?_)
  rintro e w3 ⟨rfl, rfl⟩
  rw [hr]
  clear hr
  go_wp2_with fail
  (with_reducible refine (KC.out _ h).mono ?_)
  rintro e w3 ⟨A3, c3, rfl, o3, b3⟩
  have s3 := b3.size
  have b4 := alloc_below w3 (.cells #[.int .i64 m, .slice A3 vs.length c3] 31)
  obtain ⟨z0, z1⟩ := PBox.new w3 m A3 vs.length c3 31 rfl
  have o4 := o3.alloc (.cells #[.int .i64 m, .slice A3 vs.length c3] 31)
  have s4 : (w3.alloc (.cells #[.int .i64 m, .slice A3 vs.length c3] 31)).heap.size = w3.heap.size + 1 := by simp
  have b24 := b3.trans (b4.mono b3.size)
  have HH := Lib.hid (fun hn0 : 0 < vs.length => o3.head hn0)
  have o5 := o4.mono (Nat.le_refl w2.heap.size) (show w3.heap.size ≤ (w3.alloc (.cells #[.int .i64 m, .slice A3 vs.length c3] 31)).heap.size by omega)
  clear b3 b4 KC o3 o4 h
  generalize hw4 : w3.alloc (.cells #[.int .i64 m, .slice A3 vs.length c3] 31) = w4 at *
  go_wp2
  clear hw4
  go_loopw [9, 10, 11, 25] (fun _ _ _ i wr => ∃ q : Nat, q ≤ R ∧ i = .int .i64 q ∧ OwnV wr w2.heap.size wr.heap.size (.slice A3 vs.length c3) (playTo rule m vs q) ∧ wr.cell? ⟨w3.heap.size, 0, none⟩ = some (.int .i64 m) ∧ wr.cell? ⟨w3.heap.size, 1, none⟩ = some (.slice A3 vs.length c3) ∧ Below w2.heap.size w2 wr ∧ w3.heap.size < wr.heap.size) (fun _ _ _ i _ => R - (intOf i).toNat)
  case atStart => exact ⟨0, Nat.zero_le _, rfl, o5, z0, z1, b24, by omega⟩
  case round =>
    clear o5 z0 z1 b24
    obtain ⟨wo, rfl⟩ : ∃ wo, wo = wr := ⟨_, rfl⟩
    obtain ⟨q, hq, rfl, ho, z0, z1, hb, zr⟩ := hrel
    by_cases hlt : q < R
    · have x1' := cell_carry hb x1
      have x0' := cell_carry hb x0
      have HQ : Hid (playTo rule m vs (q + 1) = playRow rule m vs (playTo rule m vs q) vs.length) := rfl
      have e0 : playTo rule m vs q = playRow rule m vs (playTo rule m vs q) 0 := rfl
      rw [e0] at ho
      have PR2 := Lib.hid (PR.out q)
      generalize playTo rule m vs q = N0 at *
      clear e0
      go_wp2
      go_loopw [9, 10, 11, 30] (fun _ _ _ i wr => ∃ j : Nat, j ≤ vs.length ∧ i = .int .i64 j ∧ OwnV wr w2.heap.size wr.heap.size (.slice A3 vs.length c3) (playRow rule m vs N0 j) ∧ wr.cell? ⟨w3.heap.size, 0, none⟩ = some (.int .i64 m) ∧ wr.cell? ⟨w3.heap.size, 1, none⟩ = some (.slice A3 vs.length c3) ∧ Below w2.heap.size w2 wr ∧ w3.heap.size < wr.heap.size) (fun _ _ _ i _ => vs.length - (intOf i).toNat)
      case atStart => exact ⟨0, Nat.zero_le _, rfl, ho, z0, z1, hb, zr⟩
      case round =>
        clear ho z0 z1 hb zr x0' x1'
        obtain ⟨j, hj, rfl, ho, z0, z1, hb, zr⟩ := hrel
        have hbw := hB.trans (hb.mono hB.size)
        by_cases hlj : j < vs.length
        · obtain ⟨g3, rfl, g31, g32, g33⟩ := HH.out (by omega)
          obtain ⟨b, o, A', c', rfl, _, hc1, hc2, hcc, hin⟩ := (hv0.below hbw).at_ hlj
          have hfr := FR.out j hlj
          have hps := PR2.out j (by omega)
          have HSS : Hid (playRow rule m vs N0 (j + 1) = if gainsT rule m (playRow rule m vs N0 j) j (vx vs j).r then setR (playRow rule m vs N0 j) j (replyR rule m (playRow rule m vs N0 j) j (vx vs j).r) else playRow rule m vs N0 j) := rfl
          have HBO : Hid (betterO rule m (playRow rule m vs N0 j) j (vx vs j).r = if gainsT rule m (playRow rule m vs N0 j) j (vx vs j).r then some (replyR rule m (playRow rule m vs N0 j) j (vx vs j).r) else none) := rfl
          generalize playRow rule m vs N0 j = N1 at *
          generalize vx vs j = v at *
          have sm1 : ∀ x ∈ N1, x.r.length ≤ 1048576 := fun x hx => by
            have F1 := pf_of (playB_iff.1 hps.1).1
            have := F1.l x hx; have := F1.m5; omega
          have b1 := alloc_below wr (.cells #[.slice A' v.r.length c', .int .i64 v.c] 46)
          obtain ⟨y0, y1⟩ := new_pair wr (.slice A' v.r.length c') (.int .i64 v.c) 46 rfl
          have ho5 := ho.alloc (.cells #[.slice A' v.r.length c', .int .i64 v.c] 46)
          have hin5 := hin.below b1
          have z05 := cell_carry b1 z0
          have z15 := cell_carry b1 z1
          have hb5 := hb.trans (b1.mono hb.size)
          have s5 : (wr.alloc (.cells #[.slice A' v.r.length c', .int .i64 v.c] 46)).heap.size = wr.heap.size + 1 := by simp
          clear b1 ho hin z0 z1 hb
          generalize hw5 : wr.alloc (.cells #[.slice A' v.r.length c', .int .i64 v.c] 46) = w5 at *
          have KB := Lib.hid (implBetterFor rule m (some ⟨g3, 0, none⟩) vs.length c3 N1 j A' c' v.r w5 (by have := ho5.at_; exact this) hn sm1 hps.1 (by omega) hin5 hfr)
          have jj : (j : Int) < (vs.length : Int) := by omega
          clear hfr hps sm1
          go_wp2_with fail
          (with_reducible refine KB.out.mono ?_)
          rintro e w6 ⟨u, rfl, hu, b6⟩
          have s6 := b6.size
          have ho6 := ho5.belowW b6
          have z06 := cell_carry b6 z05
          have z16 := cell_carry b6 z15
          have hb6 := hb5.trans (b6.mono hb5.size)
          clear b6 KB hw5 ho5 z05 z15 hb5 hin5 y0 y1
          rcases hu.form with ⟨hnone, rfl⟩ | ⟨rr, gg, cc, hsome, rfl, how, _⟩
          · have he := run_neq_slice_nil_any (P := Tryz.prog) w6 26 3 none 0 0 0 0 Tryz.underlying26
            simp only [Option.isNone_none, Bool.not_true] at he
            have he2 : (!(none : Option Addr).isNone) = false := rfl
            have HNN : Hid (playRow rule m vs N0 (j + 1) = N1) := by
              have h1 := HBO.out
              rw [hnone] at h1
              rw [HSS.out]
              show _ = _
              split at h1
              · cases h1
              · rename_i h2; rw [if_neg h2]
            have ho7 := ho6.mono (Nat.le_refl w2.heap.size) (show wr.heap.size ≤ w6.heap.size by omega)
            clear hnone hu ho6
            go_wp2
            go_roundw
            case rel => exact ⟨j + 1, by omega, by go_num, by rw [HNN.out]; exact ho7, z06, z16, hb6, by omega⟩
            case measure => simp [intOf]; omega
          · have he := run_neq_slice_nil_any (P := Tryz.prog) w6 26 3 (some ⟨gg, 0, none⟩) rr.length cc 0 0 Tryz.underlying26
            simp only [Option.isNone_some, Bool.not_false] at he
            have he2 : (!(some (⟨gg, 0, none⟩ : Addr)).isNone) = true := rfl
            have HNN : Hid (playRow rule m vs N0 (j + 1) = setR N1 j rr) := by
              have h1 := HBO.out
              rw [hsome] at h1
              rw [HSS.out]
              show _ = _
              split at h1
              · rename_i h2; rw [if_pos h2]; injection h1 with h1; rw [h1]
              · cases h1
            obtain ⟨⟨u0, cu⟩, fu⟩ := ho6.cells j hlj
            obtain ⟨ho7, on7⟩ := ho6.stored (H := w6.heap.size) j hlj how (by omega) (Nat.le_refl _) (by omega) (by omega)
            have z07 := on7.cell z06 (by show ¬ (_ ≤ w3.heap.size ∧ w3.heap.size < _); omega)
            have z17 := on7.cell z16 (by show ¬ (_ ≤ w3.heap.size ∧ w3.heap.size < _); omega)
            have hb7 := hb6.trans (on7.toBelow g31 hb6.size)
            have z77 : (w6.setCell ⟨g3, j * 2, none⟩ (.slice (some ⟨gg, 0, none⟩) rr.length cc)).heap.size = w6.heap.size := World.size_setCell _ _ _
            rw [← z77] at ho7
            have HO := Lib.hid ho7
            have HZ0 := Lib.hid z07
            have HZ1 := Lib.hid z17
            have HB7 := Lib.hid hb7
            have ZZ := Lib.hid (show w3.heap.size < (w6.setCell ⟨g3, j * 2, none⟩ (.slice (some ⟨gg, 0, none⟩) rr.length cc)).heap.size by omega)
            clear hsome hu how ho6 ho7 on7 z07 z17 hb7 z77 hb6
            go_wp2
            go_roundw
            case rel => exact ⟨j + 1, by omega, by go_num, by rw [HNN.out]; exact HO.out, HZ0.out, HZ1.out, HB7.out, ZZ.out⟩
            case measure => simp [intOf]; omega
        · obtain rfl : j = vs.length := by omega
          rw [← HQ.out] at ho
          go_wp2
          go_roundw
          case rel => exact ⟨q + 1, by omega, by go_num, ho, z0, z1, hb, zr⟩
          case measure => simp [intOf]; omega
    · obtain rfl : q = R := by omega
      have hbw := hB.trans (hb.mono hB.size)
      have f0 := (hb.frozen (p := ⟨w0.heap.size, 0, none⟩) (cell_lt r0)).trans rf0
      have f1 := (hb.frozen (p := ⟨w0.heap.size, 1, none⟩) (cell_lt r1)).trans rf1
      have r0' := cell_carry hb r0
      have r1' := cell_carry hb r1
      have E2 := Lib.hid (pair_set r0' r1' (.int .i64 m) (.slice A3 vs.length c3))
      have n1 : Only w0.heap.size (w0.heap.size + 1) wo (wo.setCell ⟨w0.heap.size, 0, none⟩ (.int .i64 m)) := Only.setCell1 _ _ _ _
      have n2 : Only w0.heap.size (w0.heap.size + 1) (wo.setCell ⟨w0.heap.size, 0, none⟩ (.int .i64 m)) ((wo.setCell ⟨w0.heap.size, 0, none⟩ (.int .i64 m)).setCell ⟨w0.heap.size, 1, none⟩ (.slice A3 vs.length c3)) := Only.setCell1 _ _ _ _
      have n3 := n1.trans n2
      have n3s := n3.size
      have HO : Hid (OwnV ((wo.setCell ⟨w0.heap.size, 0, none⟩ (.int .i64 m)).setCell ⟨w0.heap.size, 1, none⟩ (.slice A3 vs.length c3)) w.heap.size ((wo.setCell ⟨w0.heap.size, 0, none⟩ (.int .i64 m)).setCell ⟨w0.heap.size, 1, none⟩ (.slice A3 vs.length c3)).heap.size (.slice A3 vs.length c3) (playTo rule m vs q)) :=
        (ho.only n3 (.inr (by omega))).mono (by omega) (by omega)
      have HBB := Lib.hid (hbw.trans (n3.toBelow (by omega) hbw.size))
      clear n1 n2 n3 n3s ho hbw hb r0 r1 rf0 rf1 x0 x1 HH
      go_wp2
      obtain ⟨e0, e1⟩ := E2.out
      exact bodyPost_ret (v := .tuple #[.agg #[.int .i64 m, .slice A3 vs.length c3], .bool true]) (by simp [results, Tryz.results15, go_sem, e0, e1]) rfl ⟨_, _, rfl, HO.out, HBB.out⟩
end Go.Proofs.YtcjnjnegaoihoaaGreat
namespace Go.Proofs.YtcjnjnegaoihoaaGreat
set_option linter.unusedSimpArgs false
set_option linter.unusedVariables false
set_option linter.unusedVariables false
open Go.RowKit

set_option maxRecDepth 100000 in
set_option maxHeartbeats 4000000 in
theorem specPlayReplies (rule m : Int) (A : Option Addr) (n c : Nat) (vs : List Vt) (rounds : Int) (w : World) (h : VotesAt w A n vs) (hn : n ≤ 1048576) (hx : ∀ v ∈ vs, v.r.length ≤ 1048576) :
    Calls Tryz.prog 14 #[.int .i64 rule, .agg #[.int .i64 m, .slice A n c], .int .i64 rounds] w fun e w' => ∃ A' c', e = .returned (.tuple #[.agg #[.int .i64 (playM rule m vs rounds), .slice A' (playV rule m vs rounds).length c'], .bool (playOk rule m vs rounds)]) ∧ OwnV w' w.heap.size w'.heap.size (.slice A' (playV rule m vs rounds).length c') (playV rule m vs rounds) ∧ Below w.heap.size w w' := by
  have hv0 := h
  obtain rfl := h.len
  have hB := alloc_below w (.cells #[.int .i64 m, .slice A vs.length c] 31)
  obtain ⟨x0, x1⟩ := PBox.new w m A vs.length c 31 rfl
  replace h := h.below hB
  generalize hw0 : w.alloc (.cells #[.int .i64 m, .slice A vs.length c] 31) = w0 at *
  have s0 : w0.heap.size = w.heap.size + 1 := by rw [← hw0]; simp
  have b1 := alloc_below w0 (.cells #[.int .i64 0, .slice none 0 0] 31)
  obtain ⟨r0, r1⟩ := PBox.new w0 0 none 0 0 31 rfl
  have rf0 := new_free w0 #[.int .i64 0, .slice none 0 0] 31 rfl 0
  have rf1 := new_free w0 #[.int .i64 0, .slice none 0 0] 31 rfl 1
  replace x0 := cell_carry b1 x0
  replace x1 := cell_carry b1 x1
  replace h := h.below b1
  replace hB := hB.trans (b1.mono hB.size)
  have s1 : w0.heap.size < (w0.alloc (.cells #[.int .i64 0, .slice none 0 0] 31)).heap.size := by simp
  have s01 : w.heap.size < w0.heap.size := by omega
  clear b1 s0
  generalize hw1 : w0.alloc (.cells #[.int .i64 0, .slice none 0 0] 31) = w1 at *
  have K : Hid (Calls Tryz.prog 18 #[.int .i64 rule, .agg #[.int .i64 m, .slice A vs.length c]] w1 fun e w' => e = .returned (.bool (playB rule m vs)) ∧ Below w1.heap.size w1 w') := specRule rule m A vs.length c vs w1 h hn hx
  unfold playM playV playOk
  cases hpl : playB rule m vs
  · rw [hpl] at K
    simp only [Bool.false_and, Bool.false_eq_true, if_false, List.length_nil]
    clear hx hpl
    go_enter Tryz.func14, Tryz.ntmps14
    go_wp2_with fail
    (with_reducible refine K.out.mono ?_)
    rintro e w2 ⟨rfl, b2⟩
    replace rf0 := (b2.frozen (p := ⟨w0.heap.size, 0, none⟩) (cell_lt r0)).trans rf0
    replace rf1 := (b2.frozen (p := ⟨w0.heap.size, 1, none⟩) (cell_lt r1)).trans rf1
    replace r0 := cell_carry b2 r0
    replace r1 := cell_carry b2 r1
    replace hB := hB.trans (b2.mono hB.size)
    have E2 := Lib.hid (pair_set r0 r1 (.int .i64 0) (.slice none 0 0))
    have HB := Lib.hid ((hB.setCell (p := ⟨w0.heap.size, 0, none⟩) (by show w.heap.size ≤ w0.heap.size; omega) (.int .i64 0)).setCell (p := ⟨w0.heap.size, 1, none⟩) (by show w.heap.size ≤ w0.heap.size; omega) (.slice none 0 0))
    clear b2 K hw1 hw0
    go_wp2
    obtain ⟨e0, e1⟩ := E2.out
    exact bodyPost_ret (v := .tuple #[.agg #[.int .i64 0, .slice none 0 0], .bool false]) (by simp [results, Tryz.results14, go_sem, e0, e1]) rfl ⟨_, _, rfl, OwnV.nil _ _ _, HB.out⟩
  rw [hpl] at K
  cases hr : inB rounds 0 5
  · simp only [Bool.true_and, Bool.false_eq_true, if_false, List.length_nil]
    clear hx hpl
    go_enter Tryz.func14, Tryz.ntmps14
    go_wp2_with fail
    (with_reducible refine K.out.mono ?_)
    rintro e w2 ⟨rfl, b2⟩
    replace rf0 := (b2.frozen (p := ⟨w0.heap.size, 0, none⟩) (cell_lt r0)).trans rf0
    replace rf1 := (b2.frozen (p := ⟨w0.heap.size, 1, none⟩) (cell_lt r1)).trans rf1
    replace r0 := cell_carry b2 r0
    replace r1 := cell_carry b2 r1
    replace hB := hB.trans (b2.mono hB.size)
    go_wp2_with fail
    (with_reducible refine (l01In_any _ _ _ _).mono ?_)
    rintro e w3 ⟨rfl, rfl⟩
    rw [hr]
    have E2 := Lib.hid (pair_set r0 r1 (.int .i64 0) (.slice none 0 0))
    have HB := Lib.hid ((hB.setCell (p := ⟨w0.heap.size, 0, none⟩) (by show w.heap.size ≤ w0.heap.size; omega) (.int .i64 0)).setCell (p := ⟨w0.heap.size, 1, none⟩) (by show w.heap.size ≤ w0.heap.size; omega) (.slice none 0 0))
    clear b2 K hw1 hw0 hr
    go_wp2
    obtain ⟨e0, e1⟩ := E2.out
    exact bodyPost_ret (v := .tuple #[.agg #[.int .i64 0, .slice none 0 0], .bool false]) (by simp [results, Tryz.results14, go_sem, e0, e1]) rfl ⟨_, _, rfl, OwnV.nil _ _ _, HB.out⟩
  simp only [Bool.and_self, if_true]
  obtain ⟨R, rfl, R5⟩ : ∃ R : Nat, rounds = (R : Int) ∧ R ≤ 5 := by
    have := inB_iff.1 hr
    exact ⟨rounds.toNat, by omega, by omega⟩
  rw [Int.toNat_natCast]
  have hp := (playB_iff.1 hpl).1
  have F := pf_of hp
  have PO := Lib.hid (fun i => playTo_ok hpl i)
  have PR := Lib.hid (fun i k hk => playRow_ok (rule := rule) (vs := vs) (playTo_ok hpl i).1 (playTo_ok hpl i).2 hp k hk)
  have KC := Lib.hid (fun W hW => specCopy m A vs.length c vs W hW hn (fun v hv => by have h1 := (pf_of hp).l v hv; have h2 := (pf_of hp).m1; have h3 := (pf_of hp).m5; omega))
  have FR := Lib.hid (fun k (hk : k < vs.length) => (F.r _ (vx_mem hk)))
  have pl : (playTo rule m vs R).length = vs.length := (playTo_ok hpl R).2
  rw [pl]
  clear hx hp F hpl pl
  go_enter Tryz.func14, Tryz.ntmps14
  go_wp2_with fail
  (with_reducible refine K.out.mono ?_)
  rintro e w2 ⟨rfl, b2⟩
  have s2 := b2.size
  replace rf0 := (b2.frozen (p := ⟨w0.heap.size, 0, none⟩) (cell_lt r0)).trans rf0
  replace rf1 := (b2.frozen (p := ⟨w0.heap.size, 1, none⟩) (cell_lt r1)).trans rf1
  replace r0 := cell_carry b2 r0
  replace r1 := cell_carry b2 r1
  replace x0 := cell_carry b2 x0
  replace x1 := cell_carry b2 x1
  replace h := h.below b2
  replace hB := hB.trans (b2.mono hB.size)
  clear b2 K hw1 hw0
  go_wp2_with fail
  (with_reducible refine (l01In_any _ _ _ _).mono ?_)
  rintro e w3 ⟨rfl, rfl⟩
  rw [hr]
  clear hr
  go_wp2_with fail
  (with_reducible refine (KC.out _ h).mono ?_)
  rintro e w3 ⟨A3, c3, rfl, o3, b3⟩
  have s3 := b3.size
  have b4 := alloc_below w3 (.cells #[.int .i64 m, .slice A3 vs.length c3] 31)
  obtain ⟨z0, z1⟩ := PBox.new w3 m A3 vs.length c3 31 rfl
  have o4 := o3.alloc (.cells #[.int .i64 m, .slice A3 vs.length c3] 31)
  have s4 : (w3.alloc (.cells #[.int .i64 m, .slice A3 vs.length c3] 31)).heap.size = w3.heap.size + 1 := by simp
  have b24 := b3.trans (b4.mono b3.size)
  have HH := Lib.hid (fun hn0 : 0 < vs.length => o3.head hn0)
  have o5 := o4.mono (Nat.le_refl w2.heap.size) (show w3.heap.size ≤ (w3.alloc (.cells #[.int .i64 m, .slice A3 vs.length c3] 31)).heap.size by omega)
  clear b3 b4 KC o3 o4 h
  generalize hw4 : w3.alloc (.cells #[.int .i64 m, .slice A3 vs.length c3] 31) = w4 at *
  go_wp2
  clear hw4
  go_loopw [9, 10, 11, 12, 13] (fun i _ _ _ _ wr => ∃ q : Nat, q ≤ R ∧ i = .int .i64 q ∧ OwnV wr w2.heap.size wr.heap.size (.slice A3 vs.length c3) (playTo rule m vs q) ∧ wr.cell? ⟨w3.heap.size, 0, none⟩ = some (.int .i64 m) ∧ wr.cell? ⟨w3.heap.size, 1, none⟩ = some (.slice A3 vs.length c3) ∧ Below w2.heap.size w2 wr ∧ w3.heap.size < wr.heap.size) (fun i _ _ _ _ _ => R - (intOf i).toNat)
  case atStart => exact ⟨0, Nat.zero_le _, rfl, o5, z0, z1, b24, by omega⟩
  case round =>
    clear o5 z0 z1 b24
    obtain ⟨wo, rfl⟩ : ∃ wo, wo = wr := ⟨_, rfl⟩
    obtain ⟨q, hq, rfl, ho, z0, z1, hb, zr⟩ := hrel
    by_cases hlt : q < R
    · have x1' := cell_carry hb x1
      have x0' := cell_carry hb x0
      have HQ : Hid (playTo rule m vs (q + 1) = playRow rule m vs (playTo rule m vs q) vs.length) := rfl
      have e0 : playTo rule m vs q = playRow rule m vs (playTo rule m vs q) 0 := rfl
      rw [e0] at ho
      have PR2 := Lib.hid (PR.out q)
      generalize playTo rule m vs q = N0 at *
      clear e0
      go_wp2
      go_loopw [10, 11, 12, 13, 34] (fun _ _ _ _ i wr => ∃ j : Nat, j ≤ vs.length ∧ i = .int .i64 j ∧ OwnV wr w2.heap.size wr.heap.size (.slice A3 vs.length c3) (playRow rule m vs N0 j) ∧ wr.cell? ⟨w3.heap.size, 0, none⟩ = some (.int .i64 m) ∧ wr.cell? ⟨w3.heap.size, 1, none⟩ = some (.slice A3 vs.length c3) ∧ Below w2.heap.size w2 wr ∧ w3.heap.size < wr.heap.size) (fun _ _ _ _ i _ => vs.length - (intOf i).toNat)
      case atStart => exact ⟨0, Nat.zero_le _, rfl, ho, z0, z1, hb, zr⟩
      case round =>
        clear ho z0 z1 hb zr x0' x1'
        obtain ⟨j, hj, rfl, ho, z0, z1, hb, zr⟩ := hrel
        have hbw := hB.trans (hb.mono hB.size)
        by_cases hlj : j < vs.length
        · obtain ⟨g3, rfl, g31, g32, g33⟩ := HH.out (by omega)
          obtain ⟨b, o, A', c', rfl, _, hc1, hc2, hcc, hin⟩ := (hv0.below hbw).at_ hlj
          have hfr := FR.out j hlj
          have hps := PR2.out j (by omega)
          have HSS : Hid (playRow rule m vs N0 (j + 1) = if pref (vx vs j).r (replyW rule m (playRow rule m vs N0 j) j (vx vs j).r) (winnerR rule m (playRow rule m vs N0 j)) then setR (playRow rule m vs N0 j) j (replyR rule m (playRow rule m vs N0 j) j (vx vs j).r) else playRow rule m vs N0 j) := rfl
          generalize playRow rule m vs N0 j = N1 at *
          generalize vx vs j = v at *
          have hp1 := playB_iff.1 hps.1
          have sm1 : ∀ x ∈ N1, x.r.length ≤ 1048576 := fun x hx => by
            have F1 := pf_of hp1.1
            have := F1.l x hx; have := F1.m5; omega
          have tl : v.r.length ≤ 5 := by have := (rankOk_facts hfr).2; omega
          have RF := reply_facts (rule := rule) (vs := N1) (k := j) (truth := v.r) hp1.1 (by omega) hp1.2.2.1 hp1.2.2.2 hfr
          have rl : 0 < (replyR rule m N1 j v.r).length ∧ (replyR rule m N1 j v.r).length ≤ 5 := by have h1 := (rankOk_facts RF.ok).2; have h2 := (rankOk_facts RF.ok).1; omega
          have b1 := alloc_below wr (.cells #[.slice A' v.r.length c', .int .i64 v.c] 46)
          obtain ⟨y0, y1⟩ := new_pair wr (.slice A' v.r.length c') (.int .i64 v.c) 46 rfl
          have ho5 := ho.alloc (.cells #[.slice A' v.r.length c', .int .i64 v.c] 46)
          have hin5 := hin.below b1
          have z05 := cell_carry b1 z0
          have z15 := cell_carry b1 z1
          have hb5 := hb.trans (b1.mono hb.size)
          have s5 : (wr.alloc (.cells #[.slice A' v.r.length c', .int .i64 v.c] 46)).heap.size = wr.heap.size + 1 := by simp
          have sr : w2.heap.size ≤ wr.heap.size := hb.size
          clear b1 ho hin z0 z1 hb hbw
          generalize hw5 : wr.alloc (.cells #[.slice A' v.r.length c', .int .i64 v.c] 46) = w5 at *
          have KB := Lib.hid (specReply rule m (some ⟨g3, 0, none⟩) vs.length c3 N1 j A' c' v.r w5 (by have := ho5.at_; exact this) hn sm1 hp1.1 (by omega) hp1.2.2.1 hp1.2.2.2 hin5 hcc hfr)
          have KW := Lib.hid (fun W hW => specWinnerBy rule m (some ⟨g3, 0, none⟩) vs.length c3 N1 W hW hn sm1)
          have jj : (j : Int) < (vs.length : Int) := by omega
          generalize replyR rule m N1 j v.r = rep at *
          generalize replyW rule m N1 j v.r = Wn at *
          generalize winnerR rule m N1 = W0 at *
          clear hfr hps sm1 RF hp1
          go_wp2_with fail
          (with_reducible refine KB.out.mono ?_)
          rintro e w6 ⟨A6, c6, rfl, o6, hc6, b6⟩
          have s6 := b6.size
          have ho6 := ho5.belowW b6
          have hin6 := hin5.below b6
          have z06 := cell_carry b6 z05
          have z16 := cell_carry b6 z15
          have y06 := cell_carry b6 y0
          have hb6 := hb5.trans (b6.mono hb5.size)
          clear b6 KB hw5 ho5 z05 z15 hb5 hin5 y0 y1
          have hv6 : VotesAt w6 (some ⟨g3, 0, none⟩) vs.length N1 := ho6.at_
          have K2 : Hid (∀ L : Later w6, Calls Tryz.prog 22 #[.int .i64 rule, .agg #[.int .i64 m, .slice (some ⟨g3, 0, none⟩) vs.length c3]] L.W fun e W' => e = .returned (.int .i64 W0) ∧ ∃ L' : Later w6, W' = L'.W) :=
            fun L => L.call (KW.out L.W (hv6.below L.h))
          have K3 : Hid (∀ L : Later w6, Calls Tryz.prog 21 #[.slice A' v.r.length c', .int .i64 Wn, .int .i64 W0] L.W fun e W' => e = .returned (.bool (pref v.r Wn W0)) ∧ ∃ L' : Later w6, W' = L'.W) :=
            fun L => L.call_same (specPrefers A' _ c' v.r Wn W0 L.W (hin6.below L.h) (by omega))
          have q0 : ∀ L : Later w6, L.W.cell? ⟨w3.heap.size, 0, none⟩ = some (.int .i64 m) := fun L => L.cell z06
          have q1 : ∀ L : Later w6, L.W.cell? ⟨w3.heap.size, 1, none⟩ = some (.slice (some ⟨g3, 0, none⟩) vs.length c3) := fun L => L.cell z16
          have q2 : ∀ L : Later w6, L.W.cell? ⟨wr.heap.size, 0, none⟩ = some (.slice A' v.r.length c') := fun L => L.cell y06
          clear hv6 KW
          generalize pref v.r Wn W0 = gb at *
          go_upto_region 11 with fail
          cases gb
          · have HNN : Hid (playRow rule m vs N0 (j + 1) = N1) := by show _ = _; rw [HSS.out, if_neg (by simp)]
            clear HSS z06 z16 y06 hin6
            refine wp_region_later (by kernel_rfl) (by kernel_rfl) ?_
            repeat (go_big_quiet_step (first | (with_reducible exact K2.out _) | (with_reducible exact K3.out _)))
            (refine wpQuiet_nil ?_; rintro wl ⟨L_, hwl_⟩; have hbl := L_.h; rw [← hwl_] at hbl; clear hwl_ L_)
            have z07 : wl.cell? ⟨w3.heap.size, 0, none⟩ = some (.int .i64 m) := q0 ⟨wl, hbl⟩
            have z17 : wl.cell? ⟨w3.heap.size, 1, none⟩ = some (.slice (some ⟨g3, 0, none⟩) vs.length c3) := q1 ⟨wl, hbl⟩
            have sl := hbl.size
            have ho7 := (ho6.belowW hbl).mono (Nat.le_refl w2.heap.size) (show wr.heap.size ≤ wl.heap.size by omega)
            have hb7 := hb6.trans (hbl.mono hb6.size)
            clear q0 q1 q2 K2 K3 ho6 hb6 hbl o6
            go_wp2
            go_roundw
            case rel => exact ⟨j + 1, by omega, by go_num, by rw [HNN.out]; exact ho7, z07, z17, hb7, by omega⟩
            case measure => simp [intOf]; omega
          · have HNN : Hid (playRow rule m vs N0 (j + 1) = setR N1 j rep) := by show _ = _; rw [HSS.out, if_pos rfl]
            clear HSS z06 z16 y06 hin6
            refine wp_region_later (by kernel_rfl) (by kernel_rfl) ?_
            repeat (go_big_quiet_step (first | (with_reducible exact K2.out _) | (with_reducible exact K3.out _)))
            (refine wpQuiet_nil ?_; rintro wl ⟨L_, hwl_⟩; have hbl := L_.h; rw [← hwl_] at hbl; clear hwl_ L_)
            have z07 : wl.cell? ⟨w3.heap.size, 0, none⟩ = some (.int .i64 m) := q0 ⟨wl, hbl⟩
            have z17 : wl.cell? ⟨w3.heap.size, 1, none⟩ = some (.slice (some ⟨g3, 0, none⟩) vs.length c3) := q1 ⟨wl, hbl⟩
            have sl := hbl.size
            have ho7 := ho6.belowW hbl
            have hb7 := hb6.trans (hbl.mono hb6.size)
            have o7 := o6.below hbl
            clear q0 q1 q2 K2 K3 ho6 hb6 hbl o6
            obtain ⟨bi, oi, rfl, _, _⟩ := o7.at_ (k := 0) (by omega)
            obtain ⟨⟨u, cu⟩, fu⟩ := ho7.cells j hlj
            go_wp2
            have o7d : IntsAt wl.drew (some ⟨bi, oi, none⟩) rep.length rep := o7
            have z17d : wl.drew.cell? ⟨w3.heap.size, 1, none⟩ = some (.slice (some ⟨g3, 0, none⟩) vs.length c3) := z17
            have z07d : wl.drew.cell? ⟨w3.heap.size, 0, none⟩ = some (.int .i64 m) := z07
            have ho7d : OwnV wl.drew w2.heap.size wr.heap.size (.slice (some ⟨g3, 0, none⟩) vs.length c3) N1 := ho7
            have cud : wl.drew.cell? ⟨g3, j * 2, none⟩ = some u := cu
            have fud : wl.drew.frozen? ⟨g3, j * 2, none⟩ = false := fu
            have sld : wl.drew.heap.size = wl.heap.size := rfl
            have hE : OwnI (wl.drew.alloc (.cells #[] 3)) wl.heap.size (wl.heap.size + 1) (.slice (some ⟨wl.heap.size, 0, none⟩) 0 0) [] := OwnI.empty wl.drew (lo := wl.drew.heap.size) (hi := wl.drew.heap.size + 1) (Nat.le_refl _) (by omega)
            have zE : (wl.drew.alloc (.cells #[] 3)).heap.size = wl.heap.size + 1 := by rw [World.size_alloc, sld]
            have z1e := old_cell z17 (.cells #[] 3)
            clear sld
            go_region_law (first
              | (refine step_append_ints _ (by rfl) _ _ (by rfl) wl.heap.size (wl.heap.size + 1) 0 0 _ [] (by rfl) hE bi oi rep.length c6 rep (by rfl) (o7d.below (alloc_below wl.drew _)) (by omega) (show wl.heap.size ≤ (wl.drew.alloc (.cells #[] 3)).heap.size by omega) ?_; intro A8 c8 w8 o8 on8; rw [Nat.zero_add] at o8; replace o8 : OwnI w8 wl.heap.size w8.heap.size (.slice A8 rep.length c8) rep := o8; have b8 : Below wl.heap.size wl.drew w8 := (alloc_below wl.drew (.cells #[] 3)).trans (on8.toBelow (B := wl.heap.size) (Nat.le_refl _) (show wl.heap.size ≤ (wl.drew.alloc (.cells #[] 3)).heap.size by omega)); have z1_8 := cell_carry (w := wl.drew) b8 z17d; have z0_8 := cell_carry (w := wl.drew) b8 z07d; have cu8 := cell_carry (w := wl.drew) b8 cud; have fu8 := (b8.frozen (p := ⟨g3, j * 2, none⟩) (cell_lt cud)).trans fud))
            all_goals
              have S8 := b8.size
              have o8b := OwnV.belowW (w := wl.drew) ho7d b8
              have hz8 : wl.heap.size ≤ w8.heap.size := S8
              obtain ⟨O9, N9⟩ := o8b.stored (H := w8.heap.size) j hlj o8 (by omega) (Nat.le_refl _) (by omega) (by omega)
              have z1_9 := N9.cell z1_8 (by show ¬ (_ ≤ w3.heap.size ∧ w3.heap.size < _); omega)
              have z0_9 := N9.cell z0_8 (by show ¬ (_ ≤ w3.heap.size ∧ w3.heap.size < _); omega)
              have HB9 := (hb7.trans (((Below.refl _ wl).drew.trans b8).mono hb7.size)).trans (N9.toBelow g31 (by omega))
              have z9 : (w8.setCell ⟨g3, j * 2, none⟩ (.slice A8 rep.length c8)).heap.size = w8.heap.size := World.size_setCell _ _ _
              rw [← z9] at O9
              have HO := Lib.hid O9
              have HZ0 := Lib.hid z0_9
              have HZ1 := Lib.hid z1_9
              have HB7 := Lib.hid HB9
              have ZZ := Lib.hid (show w3.heap.size < (w8.setCell ⟨g3, j * 2, none⟩ (.slice A8 rep.length c8)).heap.size by omega)
              clear N9 o8b O9 z1_9 z0_9 HB9 z9 b8 z1_8 z0_8 cu8 fu8 hE zE z1e o8 on8
              go_wp2
              go_roundw
              case rel => exact ⟨j + 1, by omega, by go_num, by rw [HNN.out]; exact HO.out, HZ0.out, HZ1.out, HB7.out, ZZ.out⟩
              case measure => simp [intOf]; omega
        · obtain rfl : j = vs.length := by omega
          rw [← HQ.out] at ho
          go_wp2
          go_roundw
          case rel => exact ⟨q + 1, by omega, by go_num, ho, z0, z1, hb, zr⟩
          case measure => simp [intOf]; omega
    · obtain rfl : q = R := by omega
      have hbw := hB.trans (hb.mono hB.size)
      have f0 := (hb.frozen (p := ⟨w0.heap.size, 0, none⟩) (cell_lt r0)).trans rf0
      have f1 := (hb.frozen (p := ⟨w0.heap.size, 1, none⟩) (cell_lt r1)).trans rf1
      have r0' := cell_carry hb r0
      have r1' := cell_carry hb r1
      have E2 := Lib.hid (pair_set r0' r1' (.int .i64 m) (.slice A3 vs.length c3))
      have n1 : Only w0.heap.size (w0.heap.size + 1) wo (wo.setCell ⟨w0.heap.size, 0, none⟩ (.int .i64 m)) := Only.setCell1 _ _ _ _
      have n2 : Only w0.heap.size (w0.heap.size + 1) (wo.setCell ⟨w0.heap.size, 0, none⟩ (.int .i64 m)) ((wo.setCell ⟨w0.heap.size, 0, none⟩ (.int .i64 m)).setCell ⟨w0.heap.size, 1, none⟩ (.slice A3 vs.length c3)) := Only.setCell1 _ _ _ _
      have n3 := n1.trans n2
      have n3s := n3.size
      have HO : Hid (OwnV ((wo.setCell ⟨w0.heap.size, 0, none⟩ (.int .i64 m)).setCell ⟨w0.heap.size, 1, none⟩ (.slice A3 vs.length c3)) w.heap.size ((wo.setCell ⟨w0.heap.size, 0, none⟩ (.int .i64 m)).setCell ⟨w0.heap.size, 1, none⟩ (.slice A3 vs.length c3)).heap.size (.slice A3 vs.length c3) (playTo rule m vs q)) :=
        (ho.only n3 (.inr (by omega))).mono (by omega) (by omega)
      have HBB := Lib.hid (hbw.trans (n3.toBelow (by omega) hbw.size))
      clear n1 n2 n3 n3s ho hbw hb r0 r1 rf0 rf1 x0 x1 HH
      go_wp2
      obtain ⟨e0, e1⟩ := E2.out
      exact bodyPost_ret (v := .tuple #[.agg #[.int .i64 m, .slice A3 vs.length c3], .bool true]) (by simp [results, Tryz.results14, go_sem, e0, e1]) rfl ⟨_, _, rfl, HO.out, HBB.out⟩
end Go.Proofs.YtcjnjnegaoihoaaGreat
