/- BestReply, GainBy, betterFor, the program's side. GainBy, the reference's side. -/
import Derived.Test.YtcjnjnegaoihoaaGreatW18
import Derived.Test.YtcjnjnegaoihoaaGreatW29
namespace Go.Proofs.YtcjnjnegaoihoaaGreat
set_option linter.unusedSimpArgs false
set_option linter.unusedVariables false
set_option linter.unusedVariables false
open Go.RowKit

theorem reachB_def (rule m : Int) (vs : List Vt) (k : Nat) (a : Int) : reachB rule m vs k a = (waysF rule m vs k a).isSome := rfl
def playB (rule m : Int) (vs : List Vt) : Bool := profOk m vs && decide (m ≤ 4) && inB rule 1 13
def gainB (rule m : Int) (vs : List Vt) (k : Int) : Bool := playB rule m vs && inB k 0 ((vs.length : Int) - 1)
theorem playB_iff {rule m : Int} {vs : List Vt} : playB rule m vs = true ↔ profOk m vs = true ∧ m ≤ 4 ∧ 1 ≤ rule ∧ rule ≤ 13 := by
  unfold playB
  rw [Bool.and_eq_true, Bool.and_eq_true, decide_eq_true_eq, inB_iff]
  constructor
  · rintro ⟨⟨a, b⟩, c⟩; exact ⟨a, b, c⟩
  · rintro ⟨a, b, c⟩; exact ⟨⟨a, b⟩, c⟩
theorem implPlayable (rule m : Int) (A : Option Addr) (n c : Nat) (vs : List Vt) (w : World) (h : VotesAt w A n vs) (hn : n ≤ 1048576) (hx : ∀ v ∈ vs, v.r.length ≤ 1048576) :
    Calls Tryz.prog 31 #[.int .i64 rule, .agg #[.int .i64 m, .slice A n c]] w fun e w' => e = .returned (.bool (playB rule m vs)) ∧ Below w.heap.size w w' := by
  obtain rfl := h.len
  have hB := alloc_below w (.cells #[.int .i64 m, .slice A vs.length c] 31)
  obtain ⟨x0, x1⟩ := PBox.new w m A vs.length c 31 rfl
  replace h := h.below hB
  generalize hw0 : w.alloc (.cells #[.int .i64 m, .slice A vs.length c] 31) = w0 at *
  have K := Lib.hid (implProfileOk m A vs.length c vs _ h hn hx)
  unfold playB
  clear hx
  generalize profOk m vs = q at *
  cases q
  · go_enter Tryz.func31, Tryz.ntmps31
    go_wp2_with fail
    (with_reducible refine (K.out).mono ?_)
    rintro e w1 ⟨rfl, b1⟩
    replace x0 := cell_carry b1 x0
    replace hB := hB.trans (b1.mono hB.size)
    clear b1
    go_wp2
    go_ret
    exact ⟨rfl, hB⟩
  · by_cases h4 : m ≤ 4
    · rw [decide_eq_true h4]
      go_enter Tryz.func31, Tryz.ntmps31
      go_wp2_with fail
      (with_reducible refine (K.out).mono ?_)
      rintro e w1 ⟨rfl, b1⟩
      replace x0 := cell_carry b1 x0
      replace hB := hB.trans (b1.mono hB.size)
      clear b1
      go_wp2_with fail
      (with_reducible refine (within_any _ _ _ _).mono ?_)
      rintro e w2 ⟨rfl, rfl⟩
      go_wp2
      go_ret
      exact ⟨by simp, hB⟩
    · rw [decide_eq_false h4]
      go_enter Tryz.func31, Tryz.ntmps31
      go_wp2_with fail
      (with_reducible refine (K.out).mono ?_)
      rintro e w1 ⟨rfl, b1⟩
      replace x0 := cell_carry b1 x0
      replace hB := hB.trans (b1.mono hB.size)
      clear b1
      go_wp2
      go_ret
      exact ⟨rfl, hB⟩
theorem implGainable (rule m : Int) (A : Option Addr) (n c : Nat) (vs : List Vt) (k : Int) (w : World) (h : VotesAt w A n vs) (hn : n ≤ 1048576) (hx : ∀ v ∈ vs, v.r.length ≤ 1048576) :
    Calls Tryz.prog 43 #[.int .i64 rule, .agg #[.int .i64 m, .slice A n c], .int .i64 k] w fun e w' => e = .returned (.bool (gainB rule m vs k)) ∧ Below w.heap.size w w' := by
  obtain rfl := h.len
  have hB := alloc_below w (.cells #[.int .i64 m, .slice A vs.length c] 31)
  obtain ⟨x0, x1⟩ := PBox.new w m A vs.length c 31 rfl
  replace h := h.below hB
  generalize hw0 : w.alloc (.cells #[.int .i64 m, .slice A vs.length c] 31) = w0 at *
  have K := Lib.hid (implPlayable rule m A vs.length c vs _ h hn hx)
  unfold gainB
  have ew : IntKind.i64.wrap ((vs.length : Int) - 1) = (vs.length : Int) - 1 := IntWalk.i64_in _ (by omega)
  clear hx
  generalize playB rule m vs = q at *
  cases q
  · go_enter Tryz.func43, Tryz.ntmps43
    go_wp2_with fail
    (with_reducible refine (K.out).mono ?_)
    rintro e w1 ⟨rfl, b1⟩
    replace x0 := cell_carry b1 x0
    replace x1 := cell_carry b1 x1
    replace hB := hB.trans (b1.mono hB.size)
    clear b1
    go_wp2
    go_ret
    exact ⟨rfl, hB⟩
  · go_enter Tryz.func43, Tryz.ntmps43
    go_wp2_with fail
    (with_reducible refine (K.out).mono ?_)
    rintro e w1 ⟨rfl, b1⟩
    replace x0 := cell_carry b1 x0
    replace x1 := cell_carry b1 x1
    replace hB := hB.trans (b1.mono hB.size)
    clear b1
    go_wp2_with fail
    (with_reducible refine (within_any _ _ _ _).mono ?_)
    rintro e w2 ⟨rfl, rfl⟩
    go_wp2
    go_ret
    exact ⟨by simp, hB⟩
set_option maxRecDepth 100000 in
set_option maxHeartbeats 1000000 in
theorem implBestReply (rule m : Int) (A : Option Addr) (n c : Nat) (vs : List Vt) (k : Nat) (w : World) (h : VotesAt w A n vs) (hn : n ≤ 1048576) (hx : ∀ v ∈ vs, v.r.length ≤ 1048576) (hg : playB rule m vs = true) (hk : k < n) :
    Calls Tryz.prog 24 #[.int .i64 rule, .agg #[.int .i64 m, .slice A n c], .int .i64 (k : Int)] w fun e w' => ∃ A' c', e = .returned (.tuple #[.slice A' (replyR rule m vs k (vx vs k).r).length c', .bool true]) ∧ OwnI w' w.heap.size w'.heap.size (.slice A' (replyR rule m vs k (vx vs k).r).length c') (replyR rule m vs k (vx vs k).r) ∧ Below w.heap.size w w' := by
  obtain rfl := h.len
  have hB := alloc_below w (.cells #[.int .i64 m, .slice A vs.length c] 31)
  obtain ⟨x0, x1⟩ := PBox.new w m A vs.length c 31 rfl
  replace h := h.below hB
  generalize hw0 : w.alloc (.cells #[.int .i64 m, .slice A vs.length c] 31) = w0 at *
  obtain ⟨hp, m4, r1, r13⟩ := playB_iff.1 hg
  have F := pf_of hp
  have RF := reply_facts (rule := rule) (truth := (vx vs k).r) hp hk r1 r13 (F.r _ (vx_mem hk))
  have K := Lib.hid (implGainable rule m A vs.length c vs (k : Int) w0 h hn hx)
  have hgb : gainB rule m vs (k : Int) = true := by unfold gainB; rw [hg, inB_iff.2 ⟨by omega, by omega⟩]; rfl
  rw [hgb] at K
  have KW := Lib.hid (fun W hW => implWaysTo rule m A vs.length c vs k W hW hn hx hp hk r1 r13)
  obtain ⟨M, rfl⟩ : ∃ M : Nat, m = (M : Int) := ⟨m.toNat, by have := F.m1; omega⟩
  rw [Int.toNat_natCast] at KW
  obtain ⟨b, o, A', c', rfl, _, _, _, hcc, _⟩ := h.at_ hk
  have TB := Lib.hid (rankOk_facts (F.r _ (vx_mem hk))).2.2.2
  have tl : (vx vs k).r.length ≤ 5 := by have := (rankOk_facts (F.r _ (vx_mem hk))).2; omega
  have HW : Hid (replyW rule (M : Int) vs k (vx vs k).r = ix (vx vs k).r (replyI rule (M : Int) vs k (vx vs k).r)) := rfl
  have HWAY := Lib.hid RF.way
  have HID := Lib.hid RF.idx
  have hlt := RF.lt
  generalize replyR rule (M : Int) vs k (vx vs k).r = rep at *
  generalize replyI rule (M : Int) vs k (vx vs k).r = J at *
  generalize replyW rule (M : Int) vs k (vx vs k).r = Wn at *
  have STP := Lib.hid (fun i hi => idxP_step (reachB rule (M : Int) vs k) (vx vs k).r i hi)
  have EN := Lib.hid (idxP_end (reachB rule (M : Int) vs k) (vx vs k).r (vx vs k).r.length (Nat.le_refl _))
  generalize hvx : vx vs k = v at *
  have HVX := Lib.hid hvx
  clear RF F hp hg hx hcc hgb hvx
  go_enter Tryz.func24, Tryz.ntmps24
  go_wp2_with fail
  (with_reducible refine (K.out).mono ?_)
  rintro e w1 ⟨rfl, b1⟩
  replace x0 := cell_carry b1 x0
  replace x1 := cell_carry b1 x1
  replace h := h.below b1
  replace hB := hB.trans (b1.mono hB.size)
  clear b1
  clear K hw0
  go_wp2_with fail
  (with_reducible refine (KW.out _ h).mono ?_)
  rintro e w2 ⟨g2, c2, rfl, hways, b2⟩
  replace x0 := cell_carry b2 x0
  replace x1 := cell_carry b2 x1
  replace h := h.below b2
  have s1 := hB.size
  replace hB := hB.trans (b2.mono hB.size)
  obtain ⟨b', o', A3, c3, e, _, hc1, _, hcc, hin⟩ := h.at_ hk
  cases e
  rw [HVX.out] at hc1 hin
  have kk : (k : Int) < (vs.length : Int) := by omega
  clear b2 KW x0 h
  go_wp2
  go_loopw [10, 27] (fun _ i wr => ∃ q : Nat, q ≤ v.r.length ∧ i = .int .i64 q ∧ Hid (idxP (reachB rule (M : Int) vs k) v.r 0 = idxP (reachB rule (M : Int) vs k) v.r q) ∧ wr = w2) (fun _ i _ => v.r.length - (intOf i).toNat)
  case atStart => exact ⟨0, Nat.zero_le _, rfl, rfl, rfl⟩
  case round =>
    obtain ⟨q, hq, rfl, HQ, rfl⟩ := hrel
    by_cases hlq : q < v.r.length
    · obtain ⟨br, orr, rfl, _, hcr⟩ := hin.at_ hlq
      have d := hcr q hlq
      have tb := TB.out q hlq
      have HST := Lib.hid (STP.out q hlq)
      obtain ⟨a, ha⟩ : ∃ a : Nat, ix v.r q = (a : Int) := ⟨(ix v.r q).toNat, by omega⟩
      rw [ha] at d HST tb
      have HAX := Lib.hid ha
      have haM : a < M := by omega
      have hai : (a : Int) < (M : Int) := by omega
      obtain ⟨u, cu, _, hu⟩ := hways.cell a haM
      clear hcr ha tb
      rcases hu.form with ⟨hnone, rfl⟩ | ⟨rr, gg, cc, hsome, rfl, how, _⟩
      · have he := run_neq_slice_nil_any (P := Tryz.prog) wr 26 3 none 0 0 0 0 Tryz.underlying26
        simp only [Option.isNone_none, Bool.not_true] at he
        have he2 : (!(none : Option Addr).isNone) = false := rfl
        have HN : Hid (idxP (reachB rule (M : Int) vs k) v.r 0 = idxP (reachB rule (M : Int) vs k) v.r (q + 1)) := by
          show _ = _
          rw [HQ.out, HST.out, reachB_def, hnone]; rfl
        clear hnone hu
        go_wp2
        go_roundw
        case rel => exact ⟨q + 1, by omega, by go_num, HN, by trivial⟩
        case measure => simp [intOf]; omega
      · have he := run_neq_slice_nil_any (P := Tryz.prog) wr 26 3 (some ⟨gg, 0, none⟩) rr.length cc 0 0 Tryz.underlying26
        simp only [Option.isNone_some, Bool.not_false] at he
        have he2 : (!(some (⟨gg, 0, none⟩ : Addr)).isNone) = true := rfl
        have hqJ : q = J := by
          have h1 := HQ.out
          rw [HST.out, reachB_def, hsome, HID.out] at h1
          simp at h1
          omega
        have hrep : rr = rep := by
          have h1 := HWAY.out
          rw [HW.out, ← hqJ, HAX.out, hsome] at h1
          exact Option.some.inj h1
        subst hrep
        have HOW := Lib.hid (how.mono s1 (Nat.le_refl _))
        clear hsome hu how hqJ
        go_wp2
        go_ret2
        exact ⟨_, _, rfl, HOW.out, hB⟩
    · exfalso
      have h1 := HQ.out
      obtain rfl : q = v.r.length := by omega
      rw [EN.out, HID.out] at h1
      omega
/-- whether vote k gains, and how -/
noncomputable def gains (rule m : Int) (vs : List Vt) (k : Nat) : Bool := pref (vx vs k).r (replyW rule m vs k (vx vs k).r) (winnerR rule m vs)
noncomputable def gainR (rule m : Int) (vs : List Vt) (k : Int) : List Int := if gainB rule m vs k && gains rule m vs k.toNat then replyR rule m vs k.toNat (vx vs k.toNat).r else []
noncomputable def gainOk (rule m : Int) (vs : List Vt) (k : Int) : Bool := gainB rule m vs k && gains rule m vs k.toNat
theorem bestReply_no (rule m : Int) (A : Option Addr) (n c : Nat) (vs : List Vt) (k : Int) (w : World) (h : VotesAt w A n vs) (hn : n ≤ 1048576) (hx : ∀ v ∈ vs, v.r.length ≤ 1048576) (hg : gainB rule m vs k = false) :
    Calls Tryz.prog 24 #[.int .i64 rule, .agg #[.int .i64 m, .slice A n c], .int .i64 k] w fun e w' => e = .returned (.tuple #[.slice none 0 0, .bool false]) ∧ Below w.heap.size w w' := by
  obtain rfl := h.len
  have hB := alloc_below w (.cells #[.int .i64 m, .slice A vs.length c] 31)
  obtain ⟨x0, x1⟩ := PBox.new w m A vs.length c 31 rfl
  replace h := h.below hB
  generalize hw0 : w.alloc (.cells #[.int .i64 m, .slice A vs.length c] 31) = w0 at *
  have K := Lib.hid (implGainable rule m A vs.length c vs k w0 h hn hx)
  rw [hg] at K
  clear hx
  go_enter Tryz.func24, Tryz.ntmps24
  go_wp2_with fail
  (with_reducible refine (K.out).mono ?_)
  rintro e w1 ⟨rfl, b1⟩
  replace hB := hB.trans (b1.mono hB.size)
  clear b1
  go_wp2
  go_ret2
  exact ⟨rfl, hB⟩
set_option maxRecDepth 100000 in
set_option maxHeartbeats 1000000 in
theorem implGainBy (rule m : Int) (A : Option Addr) (n c : Nat) (vs : List Vt) (k : Int) (w : World) (h : VotesAt w A n vs) (hn : n ≤ 1048576) (hx : ∀ v ∈ vs, v.r.length ≤ 1048576) :
    Calls Tryz.prog 8 #[.int .i64 rule, .agg #[.int .i64 m, .slice A n c], .int .i64 k] w fun e w' => ∃ A' c', e = .returned (.tuple #[.slice A' (gainR rule m vs k).length c', .bool (gainOk rule m vs k)]) ∧ OwnI w' w.heap.size w'.heap.size (.slice A' (gainR rule m vs k).length c') (gainR rule m vs k) ∧ Below w.heap.size w w' := by
  obtain rfl := h.len
  have hB := alloc_below w (.cells #[.int .i64 m, .slice A vs.length c] 31)
  obtain ⟨x0, x1⟩ := PBox.new w m A vs.length c 31 rfl
  replace h := h.below hB
  generalize hw0 : w.alloc (.cells #[.int .i64 m, .slice A vs.length c] 31) = w0 at *
  unfold gainR gainOk
  cases hg : gainB rule m vs k
  · have K := Lib.hid (bestReply_no rule m A vs.length c vs k w0 h hn hx hg)
    simp only [Bool.false_and, Bool.false_eq_true, if_false, List.length_nil]
    clear hx hg
    go_enter Tryz.func8, Tryz.ntmps8
    go_wp2_with fail
    (with_reducible refine (K.out).mono ?_)
    rintro e w1 ⟨rfl, b1⟩
    replace hB := hB.trans (b1.mono hB.size)
    clear b1
    go_wp2
    go_ret2
    exact ⟨_, _, rfl, OwnI.nil _ _ _, hB⟩
  simp only [Bool.true_and]
  obtain ⟨K0, rfl, hk⟩ : ∃ K0 : Nat, k = (K0 : Int) ∧ K0 < vs.length := by
    unfold gainB at hg
    rw [Bool.and_eq_true, inB_iff] at hg
    exact ⟨k.toNat, by omega, by omega⟩
  have hpl : playB rule m vs = true := by unfold gainB at hg; rw [Bool.and_eq_true] at hg; exact hg.1
  obtain ⟨hp, m4, r1, r13⟩ := playB_iff.1 hpl
  have F := pf_of hp
  rw [Int.toNat_natCast]
  have RF := reply_facts (rule := rule) (truth := (vx vs K0).r) hp hk r1 r13 (F.r _ (vx_mem hk))
  have K := Lib.hid (implBestReply rule m A vs.length c vs K0 w0 h hn hx hpl hk)
  have KR := Lib.hid (fun B d W hW g hd => implWithRanking m A vs.length c vs K0 B d (replyR rule m vs K0 (vx vs K0).r) W hW hn hx hp hk g hd RF.ok)
  have KW := Lib.hid (fun W hW => implWinnerBy rule m A vs.length c vs W hW hn hx)
  have KQ := Lib.hid (fun A' c' W hW => implWinnerBy rule m A' vs.length c' (setR vs K0 (replyR rule m vs K0 (vx vs K0).r)) W hW hn (setR_small hx RF.ok))
  rw [RF.win] at KQ
  have HG : Hid (gains rule m vs K0 = pref (vx vs K0).r (replyW rule m vs K0 (vx vs K0).r) (winnerR rule m vs)) := rfl
  have tl : (vx vs K0).r.length ≤ 5 := by have := (rankOk_facts (F.r _ (vx_mem hk))).2; omega
  generalize gains rule m vs K0 = gb at *
  generalize replyR rule m vs K0 (vx vs K0).r = rep at *
  generalize replyW rule m vs K0 (vx vs K0).r = Wn at *
  generalize winnerR rule m vs = W0 at *
  obtain ⟨b, o, A', c', rfl, _, hc1, _, hcc, hin⟩ := h.at_ hk
  have kk : (K0 : Int) < (vs.length : Int) := by omega
  generalize vx vs K0 = v at *
  have s00 := cell_lt x0
  clear RF F hp hpl hg hx hcc m4
  go_enter Tryz.func8, Tryz.ntmps8
  go_wp2_with fail
  (with_reducible refine K.out.mono ?_)
  rintro e w1 ⟨A1, c1, rfl, o1, b1⟩
  have s0 := hB.size
  have s1 := b1.size
  have b01 := b1
  replace x0 := cell_carry b1 x0
  replace x1 := cell_carry b1 x1
  replace hc1 := cell_carry b1 hc1
  replace h := h.below b1
  replace hin := hin.below b1
  replace hB := hB.trans (b1.mono hB.size)
  clear b1 K b01 hw0
  go_wp2_with fail
  (with_reducible refine (KR.out A1 c1 _ h o1.at_ o1.ints.2.2.1).mono ?_)
  rintro e w2 ⟨A2, c2, rfl, o2, b2⟩
  have b3 := alloc_below w2 (.cells #[.int .i64 m, .slice A2 vs.length c2] 31)
  obtain ⟨z0, z1⟩ := PBox.new w2 m A2 vs.length c2 31 rfl
  have o3 := (o2.alloc (.cells #[.int .i64 m, .slice A2 vs.length c2] 31)).at_
  have b23 := b2.trans (b3.mono b2.size)
  replace x0 := cell_carry b23 x0
  replace x1 := cell_carry b23 x1
  replace hc1 := cell_carry b23 hc1
  replace h := h.below b23
  replace hin := hin.below b23
  replace o1 := o1.belowW b23
  have s3 := b23.size
  replace hB := hB.trans (b23.mono hB.size)
  clear b2 b3 b23 KR o2
  generalize hw3 : w2.alloc (.cells #[.int .i64 m, .slice A2 vs.length c2] 31) = w3 at *
  have K1 : Hid (∀ L : Later w3, Calls Tryz.prog 27 #[.int .i64 rule, .agg #[.int .i64 m, .slice A2 vs.length c2]] L.W fun e W' => e = .returned (.int .i64 Wn) ∧ ∃ L' : Later w3, W' = L'.W) :=
    fun L => L.call (KQ.out A2 c2 L.W (o3.below L.h))
  have K2 : Hid (∀ L : Later w3, Calls Tryz.prog 27 #[.int .i64 rule, .agg #[.int .i64 m, .slice (some ⟨b, o, none⟩) vs.length c]] L.W fun e W' => e = .returned (.int .i64 W0) ∧ ∃ L' : Later w3, W' = L'.W) :=
    fun L => L.call (KW.out L.W (h.below L.h))
  have K3 : Hid (∀ L : Later w3, Calls Tryz.prog 26 #[.slice A' v.r.length c', .int .i64 Wn, .int .i64 W0] L.W fun e W' => e = .returned (.bool gb) ∧ ∃ L' : Later w3, W' = L'.W) :=
    fun L => by rw [HG.out]; exact L.call_same (implPrefers A' _ c' v.r Wn W0 L.W (hin.below L.h) (by omega))
  have q0 : ∀ L : Later w3, L.W.cell? ⟨w.heap.size, 0, none⟩ = some (.int .i64 m) := fun L => L.cell x0
  have q1 : ∀ L : Later w3, L.W.cell? ⟨w.heap.size, 1, none⟩ = some (.slice (some ⟨b, o, none⟩) vs.length c) := fun L => L.cell x1
  have q2 : ∀ L : Later w3, L.W.cell? ⟨w2.heap.size, 0, none⟩ = some (.int .i64 m) := fun L => L.cell z0
  have q3 : ∀ L : Later w3, L.W.cell? ⟨w2.heap.size, 1, none⟩ = some (.slice A2 vs.length c2) := fun L => L.cell z1
  have q4 : ∀ L : Later w3, L.W.cell? ⟨b, o + K0 * 2, none⟩ = some (.slice A' v.r.length c') := fun L => L.cell hc1
  clear x0 x1 z0 z1 hc1 h hin o3 KQ KW HG
  go_upto_region 5 with fail
  clear hw3
  cases gb
  · skip
    refine wp_region_later (by kernel_rfl) (by kernel_rfl) ?_
    repeat (go_big_quiet_step (first | (with_reducible exact K1.out _) | (with_reducible exact K2.out _) | (with_reducible exact K3.out _)))
    (refine wpQuiet_nil ?_; rintro wl ⟨L_, hwl_⟩; have hbl := L_.h; rw [← hwl_] at hbl; clear hwl_ L_)
    clear q0 q1 q2 q3 q4 K1 K2 K3
    go_wp2
    go_ret2
    exact ⟨_, _, rfl, OwnI.nil _ _ _, hB.trans (hbl.mono hB.size)⟩
  · skip
    refine wp_region_later (by kernel_rfl) (by kernel_rfl) ?_
    repeat (go_big_quiet_step (first | (with_reducible exact K1.out _) | (with_reducible exact K2.out _) | (with_reducible exact K3.out _)))
    (refine wpQuiet_nil ?_; rintro wl ⟨L_, hwl_⟩; have hbl := L_.h; rw [← hwl_] at hbl; clear hwl_ L_)
    have z9 := hbl.size
    have HO := Lib.hid ((o1.belowW hbl).mono s0 (show w1.heap.size ≤ wl.heap.size by omega))
    clear q0 q1 q2 q3 q4 K1 K2 K3 o1
    go_wp2
    go_ret2
    exact ⟨_, _, rfl, HO.out, hB.trans (hbl.mono hB.size)⟩
end Go.Proofs.YtcjnjnegaoihoaaGreat
namespace Go.Proofs.YtcjnjnegaoihoaaGreat
set_option linter.unusedSimpArgs false
set_option linter.unusedVariables false
set_option linter.unusedVariables false
open Go.RowKit

set_option maxRecDepth 100000 in
set_option maxHeartbeats 2000000 in
theorem specGainBy (rule m : Int) (A : Option Addr) (n c : Nat) (vs : List Vt) (k : Int) (w : World) (h : VotesAt w A n vs) (hn : n ≤ 1048576) (hx : ∀ v ∈ vs, v.r.length ≤ 1048576) :
    Calls Tryz.prog 6 #[.int .i64 rule, .agg #[.int .i64 m, .slice A n c], .int .i64 k] w fun e w' => ∃ A' c', e = .returned (.tuple #[.slice A' (gainR rule m vs k).length c', .bool (gainOk rule m vs k)]) ∧ IntsAt w' A' (gainR rule m vs k).length (gainR rule m vs k) ∧ (gainR rule m vs k).length ≤ c' ∧ Below w.heap.size w w' := by
  obtain rfl := h.len
  have hB := alloc_below w (.cells #[.int .i64 m, .slice A vs.length c] 31)
  obtain ⟨x0, x1⟩ := PBox.new w m A vs.length c 31 rfl
  replace h := h.below hB
  generalize hw0 : w.alloc (.cells #[.int .i64 m, .slice A vs.length c] 31) = w0 at *
  have KR0 : Hid (Calls Tryz.prog 18 #[.int .i64 rule, .agg #[.int .i64 m, .slice A vs.length c]] w0 fun e w' => e = .returned (.bool (playB rule m vs)) ∧ Below w0.heap.size w0 w') := specRule rule m A vs.length c vs w0 h hn hx
  have ew : IntKind.i64.wrap ((vs.length : Int) - 1) = (vs.length : Int) - 1 := IntWalk.i64_in _ (by omega)
  unfold gainR gainOk
  cases hpl : playB rule m vs
  · have hg : gainB rule m vs k = false := by unfold gainB; rw [hpl]; rfl
    rw [hg]
    simp only [Bool.false_and, Bool.false_eq_true, if_false, List.length_nil]
    rw [hpl] at KR0
    clear hx hg hpl
    go_enter Tryz.func6, Tryz.ntmps6
    go_wp2_with fail
    (with_reducible refine (KR0.out).mono ?_)
    rintro e w1 ⟨rfl, b1⟩
    replace hB := hB.trans (b1.mono hB.size)
    clear b1
    go_wp2
    go_ret2
    exact ⟨_, _, rfl, IntsAt.nil _ _, Nat.zero_le _, hB⟩
  rw [hpl] at KR0
  cases hin0 : inB k 0 ((vs.length : Int) - 1)
  · have hg : gainB rule m vs k = false := by unfold gainB; rw [hin0, Bool.and_false]
    rw [hg]
    simp only [Bool.false_and, Bool.false_eq_true, if_false, List.length_nil]
    clear hx hg hpl
    go_enter Tryz.func6, Tryz.ntmps6
    go_wp2_with fail
    (with_reducible refine (KR0.out).mono ?_)
    rintro e w1 ⟨rfl, b1⟩
    replace x0 := cell_carry b1 x0
    replace x1 := cell_carry b1 x1
    replace hB := hB.trans (b1.mono hB.size)
    clear b1
    go_wp2_with fail
    (with_reducible refine (l01In_any _ _ _ _).mono ?_)
    rintro e w2 ⟨rfl, rfl⟩
    rw [hin0]
    go_wp2
    go_ret2
    exact ⟨_, _, rfl, IntsAt.nil _ _, Nat.zero_le _, hB⟩
  have hg : gainB rule m vs k = true := by unfold gainB; rw [hin0, hpl]; rfl
  rw [hg]
  simp only [Bool.true_and]
  obtain ⟨K0, rfl, hk⟩ : ∃ K0 : Nat, k = (K0 : Int) ∧ K0 < vs.length := by
    rw [inB_iff] at hin0
    exact ⟨k.toNat, by omega, by omega⟩
  obtain ⟨hp, m4, r1, r13⟩ := playB_iff.1 hpl
  have F := pf_of hp
  rw [Int.toNat_natCast]
  have hr := F.r _ (vx_mem hk)
  have tl : (vx vs K0).r.length ≤ 5 := by have := (rankOk_facts hr).2; omega
  have KY := Lib.hid (fun B d W hW g hd => specReply rule m A vs.length c vs K0 B d (vx vs K0).r W hW hn hx hp hk r1 r13 g hd hr)
  have KW := Lib.hid (fun W hW => specWinnerBy rule m A vs.length c vs W hW hn hx)
  have HG : Hid (gains rule m vs K0 = pref (vx vs K0).r (replyW rule m vs K0 (vx vs K0).r) (winnerR rule m vs)) := rfl
  generalize gains rule m vs K0 = gb at *
  generalize replyR rule m vs K0 (vx vs K0).r = rep at *
  generalize replyW rule m vs K0 (vx vs K0).r = Wn at *
  generalize winnerR rule m vs = W0 at *
  obtain ⟨b, o, A', c', rfl, _, hc1, _, hcc, hin⟩ := h.at_ hk
  have kk : (K0 : Int) < (vs.length : Int) := by omega
  generalize vx vs K0 = v at *
  clear F hp hpl hg hx m4 hr
  go_enter Tryz.func6, Tryz.ntmps6
  go_wp2_with fail
  (with_reducible refine (KR0.out).mono ?_)
  rintro e w1 ⟨rfl, b1⟩
  replace x0 := cell_carry b1 x0
  replace x1 := cell_carry b1 x1
  replace hc1 := cell_carry b1 hc1
  replace h := h.below b1
  replace hin := hin.below b1
  replace hB := hB.trans (b1.mono hB.size)
  clear b1
  clear KR0 hw0
  go_wp2_with fail
  (with_reducible refine (l01In_any _ _ _ _).mono ?_)
  rintro e w2 ⟨rfl, rfl⟩
  rw [hin0]
  clear hin0
  go_upto_region 3 with fail
  have z0 := hB.size
  have hbw := (Below.refl w1.heap.size w1).drew
  go_region_held3 (fun w' => w'.cell? ⟨w.heap.size, 0, none⟩ = some (.int .i64 m) ∧ w'.cell? ⟨w.heap.size, 1, none⟩ = some (.slice (some ⟨b, o, none⟩) vs.length c) ∧ w'.cell? ⟨b, o + K0 * 2, none⟩ = some (.slice A' v.r.length c')) ((refine ⟨?_, ?_, ?_⟩ <;> (first | assumption | go_keep)))
    ((go_at_call 20; have KK := KY.out _ _ _ (h.below hbw) (hin.below hbw) hcc; (with_reducible refine KK.mono ?_); rintro e w2 ⟨A2, c2, rfl, o2, hc2, b2⟩; have x0 := cell_carry b2 x0; have x1 := cell_carry b2 x1; have hc1 := cell_carry b2 hc1; have hbw := hbw.trans (b2.mono hbw.size)))
  have h2 := h.below hbw
  have hin2 := hin.below hbw
  have hB2 := hB.trans (hbw.mono hB.size)
  have K2 : Hid (∀ L : Later w2, Calls Tryz.prog 22 #[.int .i64 rule, .agg #[.int .i64 m, .slice (some ⟨b, o, none⟩) vs.length c]] L.W fun e W' => e = .returned (.int .i64 W0) ∧ ∃ L' : Later w2, W' = L'.W) :=
    fun L => L.call (KW.out L.W (h2.below L.h))
  have K3 : Hid (∀ L : Later w2, Calls Tryz.prog 21 #[.slice A' v.r.length c', .int .i64 Wn, .int .i64 W0] L.W fun e W' => e = .returned (.bool gb) ∧ ∃ L' : Later w2, W' = L'.W) :=
    fun L => by rw [HG.out]; exact L.call_same (specPrefers A' _ c' v.r Wn W0 L.W (hin2.below L.h) (by omega))
  have q0 : ∀ L : Later w2, L.W.cell? ⟨w.heap.size, 0, none⟩ = some (.int .i64 m) := fun L => L.cell x0
  have q1 : ∀ L : Later w2, L.W.cell? ⟨w.heap.size, 1, none⟩ = some (.slice (some ⟨b, o, none⟩) vs.length c) := fun L => L.cell x1
  have q4 : ∀ L : Later w2, L.W.cell? ⟨b, o + K0 * 2, none⟩ = some (.slice A' v.r.length c') := fun L => L.cell hc1
  clear hbw hB b2 x0 x1 hc1 h hin h2 hin2 KW KY HG
  go_upto_region 4 with fail
  cases gb
  · skip
    refine wp_region_later (by kernel_rfl) (by kernel_rfl) ?_
    repeat (go_big_quiet_step (first | (with_reducible exact K2.out _) | (with_reducible exact K3.out _)))
    (refine wpQuiet_nil ?_; rintro wl ⟨L_, hwl_⟩; have hbl := L_.h; rw [← hwl_] at hbl; clear hwl_ L_)
    clear q0 q1 q4 K2 K3
    go_wp2
    go_ret2
    first
      | exact ⟨none, 0, rfl, IntsAt.nil _ _, hB2.trans (hbl.mono hB2.size)⟩
      | exact ⟨none, ⟨0, rfl⟩, IntsAt.nil _ _, hB2.trans (hbl.mono hB2.size)⟩
      | exact ⟨none, 0, IntsAt.nil _ _, hB2.trans (hbl.mono hB2.size)⟩
      | trace_state
  · skip
    refine wp_region_later (by kernel_rfl) (by kernel_rfl) ?_
    repeat (go_big_quiet_step (first | (with_reducible exact K2.out _) | (with_reducible exact K3.out _)))
    (refine wpQuiet_nil ?_; rintro wl ⟨L_, hwl_⟩; have hbl := L_.h; rw [← hwl_] at hbl; clear hwl_ L_)
    have HO := Lib.hid (o2.below hbl)
    clear q0 q1 q4 K2 K3 o2
    go_wp2
    go_ret2
    exact ⟨_, _, rfl, HO.out, hc2, hB2.trans (hbl.mono hB2.size)⟩
end Go.Proofs.YtcjnjnegaoihoaaGreat
