/- BestReply, GainBy, betterFor, the program's side. GainBy, the reference's side. GainBy's contracts, as the exact law's walk wants them. The laws' own helpers on slices of integers: copies, comparison, marks. The laws' own helpers on slices of slices: sizes, copies, comparison, marks. Stores into a block of the call's own, told by 'Only'. -/
import Derived.Test.YtcjnjnegaoihoaaGreatW18
import Derived.Test.YtcjnjnegaoihoaaGreatW28
import Derived.Test.YtcjnjnegaoihoaaGreatW01
import Derived.Test.YtcjnjnegaoihoaaGreatW07
import Derived.Test.YtcjnjnegaoihoaaGreatW02
import Derived.Lib.SmallJoins
namespace Go.Proofs.YtcjnjnegaoihoaaGreat
set_option linter.unusedSimpArgs false
set_option linter.unusedVariables false
open Go.RowKit

theorem reachB_def (rule m : Int) (vs : List Vt) (k : Nat) (a : Int) : reachB rule m vs k a = (waysF rule m vs k a).isSome := rfl
def playB (rule m : Int) (vs : List Vt) : Bool := profOk m vs && decide (m ≤ 4) && inB rule 1 13
def gainB (rule m : Int) (vs : List Vt) (k : Int) : Bool := playB rule m vs && inB k 0 ((vs.length : Int) - 1)
theorem playB_iff {rule m : Int} {vs : List Vt} : playB rule m vs = true ↔ profOk m vs = true ∧ m ≤ 4 ∧ 1 ≤ rule ∧ rule ≤ 13 := by
  unfold playB
  rw [Bool.and_eq_true, Bool.and_eq_true, decide_eq_true_eq, inB_iff]
  constructor
  · rintro ⟨⟨a, b⟩, c⟩; exact ⟨a, b, c⟩
  · rintro ⟨a, b, c⟩; exact ⟨⟨a, b⟩, c⟩
theorem implPlayable (rule m : Int) (A : Option Addr) (n c : Nat) (vs : List Vt) (w : World) (h : VotesAt w A n vs) (hn : n ≤ 1048576) (hx : ∀ v ∈ vs, v.r.length ≤ 1048576) :
    Calls Tryz.prog 31 #[.int .i64 rule, .agg #[.int .i64 m, .slice A n c]] w fun e w' => e = .returned (.bool (playB rule m vs)) ∧ Below w.heap.size w w' := by
  obtain rfl := h.len
  have hB := alloc_below w (.cells #[.int .i64 m, .slice A vs.length c] 31)
  obtain ⟨x0, x1⟩ := PBox.new w m A vs.length c 31 rfl
  replace h := h.below hB
  generalize hw0 : w.alloc (.cells #[.int .i64 m, .slice A vs.length c] 31) = w0 at *
  have K := Lib.hid (implProfileOk m A vs.length c vs _ h hn hx)
  unfold playB
  clear hx
  generalize profOk m vs = q at *
  cases q
  · go_enter Tryz.func31, Tryz.ntmps31
    go_wp2_with fail
    (with_reducible refine (K.out).mono ?_)
    rintro e w1 ⟨rfl, b1⟩
    replace x0 := cell_carry b1 x0
    replace hB := hB.trans (b1.mono hB.size)
    clear b1
    go_wp2
    go_ret
    exact ⟨rfl, hB⟩
  · by_cases h4 : m ≤ 4
    · rw [decide_eq_true h4]
      go_enter Tryz.func31, Tryz.ntmps31
      go_wp2_with fail
      (with_reducible refine (K.out).mono ?_)
      rintro e w1 ⟨rfl, b1⟩
      replace x0 := cell_carry b1 x0
      replace hB := hB.trans (b1.mono hB.size)
      clear b1
      go_wp2_with fail
      (with_reducible refine (within_any _ _ _ _).mono ?_)
      rintro e w2 ⟨rfl, rfl⟩
      go_wp2
      go_ret
      exact ⟨by simp, hB⟩
    · rw [decide_eq_false h4]
      go_enter Tryz.func31, Tryz.ntmps31
      go_wp2_with fail
      (with_reducible refine (K.out).mono ?_)
      rintro e w1 ⟨rfl, b1⟩
      replace x0 := cell_carry b1 x0
      replace hB := hB.trans (b1.mono hB.size)
      clear b1
      go_wp2
      go_ret
      exact ⟨rfl, hB⟩
theorem implGainable (rule m : Int) (A : Option Addr) (n c : Nat) (vs : List Vt) (k : Int) (w : World) (h : VotesAt w A n vs) (hn : n ≤ 1048576) (hx : ∀ v ∈ vs, v.r.length ≤ 1048576) :
    Calls Tryz.prog 43 #[.int .i64 rule, .agg #[.int .i64 m, .slice A n c], .int .i64 k] w fun e w' => e = .returned (.bool (gainB rule m vs k)) ∧ Below w.heap.size w w' := by
  obtain rfl := h.len
  have hB := alloc_below w (.cells #[.int .i64 m, .slice A vs.length c] 31)
  obtain ⟨x0, x1⟩ := PBox.new w m A vs.length c 31 rfl
  replace h := h.below hB
  generalize hw0 : w.alloc (.cells #[.int .i64 m, .slice A vs.length c] 31) = w0 at *
  have K := Lib.hid (implPlayable rule m A vs.length c vs _ h hn hx)
  unfold gainB
  have ew : IntKind.i64.wrap ((vs.length : Int) - 1) = (vs.length : Int) - 1 := IntWalk.i64_in _ (by omega)
  clear hx
  generalize playB rule m vs = q at *
  cases q
  · go_enter Tryz.func43, Tryz.ntmps43
    go_wp2_with fail
    (with_reducible refine (K.out).mono ?_)
    rintro e w1 ⟨rfl, b1⟩
    replace x0 := cell_carry b1 x0
    replace x1 := cell_carry b1 x1
    replace hB := hB.trans (b1.mono hB.size)
    clear b1
    go_wp2
    go_ret
    exact ⟨rfl, hB⟩
  · go_enter Tryz.func43, Tryz.ntmps43
    go_wp2_with fail
    (with_reducible refine (K.out).mono ?_)
    rintro e w1 ⟨rfl, b1⟩
    replace x0 := cell_carry b1 x0
    replace x1 := cell_carry b1 x1
    replace hB := hB.trans (b1.mono hB.size)
    clear b1
    go_wp2_with fail
    (with_reducible refine (within_any _ _ _ _).mono ?_)
    rintro e w2 ⟨rfl, rfl⟩
    go_wp2
    go_ret
    exact ⟨by simp, hB⟩
set_option maxRecDepth 100000 in
set_option maxHeartbeats 1000000 in
theorem implBestReply (rule m : Int) (A : Option Addr) (n c : Nat) (vs : List Vt) (k : Nat) (w : World) (h : VotesAt w A n vs) (hn : n ≤ 1048576) (hx : ∀ v ∈ vs, v.r.length ≤ 1048576) (hg : playB rule m vs = true) (hk : k < n) :
    Calls Tryz.prog 24 #[.int .i64 rule, .agg #[.int .i64 m, .slice A n c], .int .i64 (k : Int)] w fun e w' => ∃ A' c', e = .returned (.tuple #[.slice A' (replyR rule m vs k (vx vs k).r).length c', .bool true]) ∧ OwnI w' w.heap.size w'.heap.size (.slice A' (replyR rule m vs k (vx vs k).r).length c') (replyR rule m vs k (vx vs k).r) ∧ Below w.heap.size w w' := by
  obtain rfl := h.len
  have hB := alloc_below w (.cells #[.int .i64 m, .slice A vs.length c] 31)
  obtain ⟨x0, x1⟩ := PBox.new w m A vs.length c 31 rfl
  replace h := h.below hB
  generalize hw0 : w.alloc (.cells #[.int .i64 m, .slice A vs.length c] 31) = w0 at *
  obtain ⟨hp, m4, r1, r13⟩ := playB_iff.1 hg
  have F := pf_of hp
  have RF := reply_facts (rule := rule) (truth := (vx vs k).r) hp hk r1 r13 (F.r _ (vx_mem hk))
  have K := Lib.hid (implGainable rule m A vs.length c vs (k : Int) w0 h hn hx)
  have hgb : gainB rule m vs (k : Int) = true := by unfold gainB; rw [hg, inB_iff.2 ⟨by omega, by omega⟩]; rfl
  rw [hgb] at K
  have KW := Lib.hid (fun W hW => implWaysTo rule m A vs.length c vs k W hW hn hx hp hk r1 r13)
  obtain ⟨M, rfl⟩ : ∃ M : Nat, m = (M : Int) := ⟨m.toNat, by have := F.m1; omega⟩
  rw [Int.toNat_natCast] at KW
  obtain ⟨b, o, A', c', rfl, _, _, _, hcc, _⟩ := h.at_ hk
  have TB := Lib.hid (rankOk_facts (F.r _ (vx_mem hk))).2.2.2
  have tl : (vx vs k).r.length ≤ 5 := by have := (rankOk_facts (F.r _ (vx_mem hk))).2; omega
  have HW : Hid (replyW rule (M : Int) vs k (vx vs k).r = ix (vx vs k).r (replyI rule (M : Int) vs k (vx vs k).r)) := rfl
  have HWAY := Lib.hid RF.way
  have HID := Lib.hid RF.idx
  have hlt := RF.lt
  generalize replyR rule (M : Int) vs k (vx vs k).r = rep at *
  generalize replyI rule (M : Int) vs k (vx vs k).r = J at *
  generalize replyW rule (M : Int) vs k (vx vs k).r = Wn at *
  have STP := Lib.hid (fun i hi => idxP_step (reachB rule (M : Int) vs k) (vx vs k).r i hi)
  have EN := Lib.hid (idxP_end (reachB rule (M : Int) vs k) (vx vs k).r (vx vs k).r.length (Nat.le_refl _))
  generalize hvx : vx vs k = v at *
  have HVX := Lib.hid hvx
  clear RF F hp hg hx hcc hgb hvx
  go_enter Tryz.func24, Tryz.ntmps24
  go_wp2_with fail
  (with_reducible refine (K.out).mono ?_)
  rintro e w1 ⟨rfl, b1⟩
  replace x0 := cell_carry b1 x0
  replace x1 := cell_carry b1 x1
  replace h := h.below b1
  replace hB := hB.trans (b1.mono hB.size)
  clear b1
  clear K hw0
  go_wp2_with fail
  (with_reducible refine (KW.out _ h).mono ?_)
  rintro e w2 ⟨g2, c2, rfl, hways, b2⟩
  replace x0 := cell_carry b2 x0
  replace x1 := cell_carry b2 x1
  replace h := h.below b2
  have s1 := hB.size
  replace hB := hB.trans (b2.mono hB.size)
  obtain ⟨b', o', A3, c3, e, _, hc1, _, hcc, hin⟩ := h.at_ hk
  cases e
  rw [HVX.out] at hc1 hin
  have kk : (k : Int) < (vs.length : Int) := by omega
  clear b2 KW x0 h
  go_wp2
  go_loopw [10, 27] (fun _ i wr => ∃ q : Nat, q ≤ v.r.length ∧ i = .int .i64 q ∧ Hid (idxP (reachB rule (M : Int) vs k) v.r 0 = idxP (reachB rule (M : Int) vs k) v.r q) ∧ wr = w2) (fun _ i _ => v.r.length - (intOf i).toNat)
  case atStart => exact ⟨0, Nat.zero_le _, rfl, rfl, rfl⟩
  case round =>
    obtain ⟨q, hq, rfl, HQ, rfl⟩ := hrel
    by_cases hlq : q < v.r.length
    · obtain ⟨br, orr, rfl, _, hcr⟩ := hin.at_ hlq
      have d := hcr q hlq
      have tb := TB.out q hlq
      have HST := Lib.hid (STP.out q hlq)
      obtain ⟨a, ha⟩ : ∃ a : Nat, ix v.r q = (a : Int) := ⟨(ix v.r q).toNat, by omega⟩
      rw [ha] at d HST tb
      have HAX := Lib.hid ha
      have haM : a < M := by omega
      have hai : (a : Int) < (M : Int) := by omega
      obtain ⟨u, cu, _, hu⟩ := hways.cell a haM
      clear hcr ha tb
      rcases hu.form with ⟨hnone, rfl⟩ | ⟨rr, gg, cc, hsome, rfl, how, _⟩
      · have he := run_neq_slice_nil_any (P := Tryz.prog) wr 26 3 none 0 0 0 0 Tryz.underlying26
        simp only [Option.isNone_none, Bool.not_true] at he
        have he2 : (!(none : Option Addr).isNone) = false := rfl
        have HN : Hid (idxP (reachB rule (M : Int) vs k) v.r 0 = idxP (reachB rule (M : Int) vs k) v.r (q + 1)) := by
          show _ = _
          rw [HQ.out, HST.out, reachB_def, hnone]; rfl
        clear hnone hu
        go_wp2
        go_roundw
        case rel => exact ⟨q + 1, by omega, by go_num, HN, by trivial⟩
        case measure => simp [intOf]; omega
      · have he := run_neq_slice_nil_any (P := Tryz.prog) wr 26 3 (some ⟨gg, 0, none⟩) rr.length cc 0 0 Tryz.underlying26
        simp only [Option.isNone_some, Bool.not_false] at he
        have he2 : (!(some (⟨gg, 0, none⟩ : Addr)).isNone) = true := rfl
        have hqJ : q = J := by
          have h1 := HQ.out
          rw [HST.out, reachB_def, hsome, HID.out] at h1
          simp at h1
          omega
        have hrep : rr = rep := by
          have h1 := HWAY.out
          rw [HW.out, ← hqJ, HAX.out, hsome] at h1
          exact Option.some.inj h1
        subst hrep
        have HOW := Lib.hid (how.mono s1 (Nat.le_refl _))
        clear hsome hu how hqJ
        go_wp2
        go_ret2
        exact ⟨_, _, rfl, HOW.out, hB⟩
    · exfalso
      have h1 := HQ.out
      obtain rfl : q = v.r.length := by omega
      rw [EN.out, HID.out] at h1
      omega
/-- whether vote k gains, and how -/
noncomputable def gains (rule m : Int) (vs : List Vt) (k : Nat) : Bool := pref (vx vs k).r (replyW rule m vs k (vx vs k).r) (winnerR rule m vs)
noncomputable def gainR (rule m : Int) (vs : List Vt) (k : Int) : List Int := if gainB rule m vs k && gains rule m vs k.toNat then replyR rule m vs k.toNat (vx vs k.toNat).r else []
noncomputable def gainOk (rule m : Int) (vs : List Vt) (k : Int) : Bool := gainB rule m vs k && gains rule m vs k.toNat
theorem bestReply_no (rule m : Int) (A : Option Addr) (n c : Nat) (vs : List Vt) (k : Int) (w : World) (h : VotesAt w A n vs) (hn : n ≤ 1048576) (hx : ∀ v ∈ vs, v.r.length ≤ 1048576) (hg : gainB rule m vs k = false) :
    Calls Tryz.prog 24 #[.int .i64 rule, .agg #[.int .i64 m, .slice A n c], .int .i64 k] w fun e w' => e = .returned (.tuple #[.slice none 0 0, .bool false]) ∧ Below w.heap.size w w' := by
  obtain rfl := h.len
  have hB := alloc_below w (.cells #[.int .i64 m, .slice A vs.length c] 31)
  obtain ⟨x0, x1⟩ := PBox.new w m A vs.length c 31 rfl
  replace h := h.below hB
  generalize hw0 : w.alloc (.cells #[.int .i64 m, .slice A vs.length c] 31) = w0 at *
  have K := Lib.hid (implGainable rule m A vs.length c vs k w0 h hn hx)
  rw [hg] at K
  clear hx
  go_enter Tryz.func24, Tryz.ntmps24
  go_wp2_with fail
  (with_reducible refine (K.out).mono ?_)
  rintro e w1 ⟨rfl, b1⟩
  replace hB := hB.trans (b1.mono hB.size)
  clear b1
  go_wp2
  go_ret2
  exact ⟨rfl, hB⟩
set_option maxRecDepth 100000 in
set_option maxHeartbeats 1000000 in
theorem implGainBy (rule m : Int) (A : Option Addr) (n c : Nat) (vs : List Vt) (k : Int) (w : World) (h : VotesAt w A n vs) (hn : n ≤ 1048576) (hx : ∀ v ∈ vs, v.r.length ≤ 1048576) :
    Calls Tryz.prog 8 #[.int .i64 rule, .agg #[.int .i64 m, .slice A n c], .int .i64 k] w fun e w' => ∃ A' c', e = .returned (.tuple #[.slice A' (gainR rule m vs k).length c', .bool (gainOk rule m vs k)]) ∧ OwnI w' w.heap.size w'.heap.size (.slice A' (gainR rule m vs k).length c') (gainR rule m vs k) ∧ Below w.heap.size w w' := by
  obtain rfl := h.len
  have hB := alloc_below w (.cells #[.int .i64 m, .slice A vs.length c] 31)
  obtain ⟨x0, x1⟩ := PBox.new w m A vs.length c 31 rfl
  replace h := h.below hB
  generalize hw0 : w.alloc (.cells #[.int .i64 m, .slice A vs.length c] 31) = w0 at *
  unfold gainR gainOk
  cases hg : gainB rule m vs k
  · have K := Lib.hid (bestReply_no rule m A vs.length c vs k w0 h hn hx hg)
    simp only [Bool.false_and, Bool.false_eq_true, if_false, List.length_nil]
    clear hx hg
    go_enter Tryz.func8, Tryz.ntmps8
    go_wp2_with fail
    (with_reducible refine (K.out).mono ?_)
    rintro e w1 ⟨rfl, b1⟩
    replace hB := hB.trans (b1.mono hB.size)
    clear b1
    go_wp2
    go_ret2
    exact ⟨_, _, rfl, OwnI.nil _ _ _, hB⟩
  simp only [Bool.true_and]
  obtain ⟨K0, rfl, hk⟩ : ∃ K0 : Nat, k = (K0 : Int) ∧ K0 < vs.length := by
    unfold gainB at hg
    rw [Bool.and_eq_true, inB_iff] at hg
    exact ⟨k.toNat, by omega, by omega⟩
  have hpl : playB rule m vs = true := by unfold gainB at hg; rw [Bool.and_eq_true] at hg; exact hg.1
  obtain ⟨hp, m4, r1, r13⟩ := playB_iff.1 hpl
  have F := pf_of hp
  rw [Int.toNat_natCast]
  have RF := reply_facts (rule := rule) (truth := (vx vs K0).r) hp hk r1 r13 (F.r _ (vx_mem hk))
  have K := Lib.hid (implBestReply rule m A vs.length c vs K0 w0 h hn hx hpl hk)
  have KR := Lib.hid (fun B d W hW g hd => implWithRanking m A vs.length c vs K0 B d (replyR rule m vs K0 (vx vs K0).r) W hW hn hx hp hk g hd RF.ok)
  have KW := Lib.hid (fun W hW => implWinnerBy rule m A vs.length c vs W hW hn hx)
  have KQ := Lib.hid (fun A' c' W hW => implWinnerBy rule m A' vs.length c' (setR vs K0 (replyR rule m vs K0 (vx vs K0).r)) W hW hn (setR_small hx RF.ok))
  rw [RF.win] at KQ
  have HG : Hid (gains rule m vs K0 = pref (vx vs K0).r (replyW rule m vs K0 (vx vs K0).r) (winnerR rule m vs)) := rfl
  have tl : (vx vs K0).r.length ≤ 5 := by have := (rankOk_facts (F.r _ (vx_mem hk))).2; omega
  generalize gains rule m vs K0 = gb at *
  generalize replyR rule m vs K0 (vx vs K0).r = rep at *
  generalize replyW rule m vs K0 (vx vs K0).r = Wn at *
  generalize winnerR rule m vs = W0 at *
  obtain ⟨b, o, A', c', rfl, _, hc1, _, hcc, hin⟩ := h.at_ hk
  have kk : (K0 : Int) < (vs.length : Int) := by omega
  generalize vx vs K0 = v at *
  have s00 := cell_lt x0
  clear RF F hp hpl hg hx hcc m4
  go_enter Tryz.func8, Tryz.ntmps8
  go_wp2_with fail
  (with_reducible refine K.out.mono ?_)
  rintro e w1 ⟨A1, c1, rfl, o1, b1⟩
  have s0 := hB.size
  have s1 := b1.size
  have b01 := b1
  replace x0 := cell_carry b1 x0
  replace x1 := cell_carry b1 x1
  replace hc1 := cell_carry b1 hc1
  replace h := h.below b1
  replace hin := hin.below b1
  replace hB := hB.trans (b1.mono hB.size)
  clear b1 K b01 hw0
  go_wp2_with fail
  (with_reducible refine (KR.out A1 c1 _ h o1.at_ o1.ints.2.2.1).mono ?_)
  rintro e w2 ⟨A2, c2, rfl, o2, b2⟩
  have b3 := alloc_below w2 (.cells #[.int .i64 m, .slice A2 vs.length c2] 31)
  obtain ⟨z0, z1⟩ := PBox.new w2 m A2 vs.length c2 31 rfl
  have o3 := (o2.alloc (.cells #[.int .i64 m, .slice A2 vs.length c2] 31)).at_
  have b23 := b2.trans (b3.mono b2.size)
  replace x0 := cell_carry b23 x0
  replace x1 := cell_carry b23 x1
  replace hc1 := cell_carry b23 hc1
  replace h := h.below b23
  replace hin := hin.below b23
  replace o1 := o1.belowW b23
  have s3 := b23.size
  replace hB := hB.trans (b23.mono hB.size)
  clear b2 b3 b23 KR o2
  generalize hw3 : w2.alloc (.cells #[.int .i64 m, .slice A2 vs.length c2] 31) = w3 at *
  have K1 : Hid (∀ L : Later w3, Calls Tryz.prog 27 #[.int .i64 rule, .agg #[.int .i64 m, .slice A2 vs.length c2]] L.W fun e W' => e = .returned (.int .i64 Wn) ∧ ∃ L' : Later w3, W' = L'.W) :=
    fun L => L.call (KQ.out A2 c2 L.W (o3.below L.h))
  have K2 : Hid (∀ L : Later w3, Calls Tryz.prog 27 #[.int .i64 rule, .agg #[.int .i64 m, .slice (some ⟨b, o, none⟩) vs.length c]] L.W fun e W' => e = .returned (.int .i64 W0) ∧ ∃ L' : Later w3, W' = L'.W) :=
    fun L => L.call (KW.out L.W (h.below L.h))
  have K3 : Hid (∀ L : Later w3, Calls Tryz.prog 26 #[.slice A' v.r.length c', .int .i64 Wn, .int .i64 W0] L.W fun e W' => e = .returned (.bool gb) ∧ ∃ L' : Later w3, W' = L'.W) :=
    fun L => by rw [HG.out]; exact L.call_same (implPrefers A' _ c' v.r Wn W0 L.W (hin.below L.h) (by omega))
  have q0 : ∀ L : Later w3, L.W.cell? ⟨w.heap.size, 0, none⟩ = some (.int .i64 m) := fun L => L.cell x0
  have q1 : ∀ L : Later w3, L.W.cell? ⟨w.heap.size, 1, none⟩ = some (.slice (some ⟨b, o, none⟩) vs.length c) := fun L => L.cell x1
  have q2 : ∀ L : Later w3, L.W.cell? ⟨w2.heap.size, 0, none⟩ = some (.int .i64 m) := fun L => L.cell z0
  have q3 : ∀ L : Later w3, L.W.cell? ⟨w2.heap.size, 1, none⟩ = some (.slice A2 vs.length c2) := fun L => L.cell z1
  have q4 : ∀ L : Later w3, L.W.cell? ⟨b, o + K0 * 2, none⟩ = some (.slice A' v.r.length c') := fun L => L.cell hc1
  clear x0 x1 z0 z1 hc1 h hin o3 KQ KW HG
  go_upto_region 5 with fail
  clear hw3
  cases gb
  · skip
    refine wp_region_later (by kernel_rfl) (by kernel_rfl) ?_
    repeat (go_big_quiet_step (first | (with_reducible exact K1.out _) | (with_reducible exact K2.out _) | (with_reducible exact K3.out _)))
    (refine wpQuiet_nil ?_; rintro wl ⟨L_, hwl_⟩; have hbl := L_.h; rw [← hwl_] at hbl; clear hwl_ L_)
    clear q0 q1 q2 q3 q4 K1 K2 K3
    go_wp2
    go_ret2
    exact ⟨_, _, rfl, OwnI.nil _ _ _, hB.trans (hbl.mono hB.size)⟩
  · skip
    refine wp_region_later (by kernel_rfl) (by kernel_rfl) ?_
    repeat (go_big_quiet_step (first | (with_reducible exact K1.out _) | (with_reducible exact K2.out _) | (with_reducible exact K3.out _)))
    (refine wpQuiet_nil ?_; rintro wl ⟨L_, hwl_⟩; have hbl := L_.h; rw [← hwl_] at hbl; clear hwl_ L_)
    have z9 := hbl.size
    have HO := Lib.hid ((o1.belowW hbl).mono s0 (show w1.heap.size ≤ wl.heap.size by omega))
    clear q0 q1 q2 q3 q4 K1 K2 K3 o1
    go_wp2
    go_ret2
    exact ⟨_, _, rfl, HO.out, hB.trans (hbl.mono hB.size)⟩
end Go.Proofs.YtcjnjnegaoihoaaGreat
namespace Go.Proofs.YtcjnjnegaoihoaaGreat
set_option linter.unusedSimpArgs false
set_option linter.unusedVariables false
open Go.RowKit

set_option maxRecDepth 100000 in
set_option maxHeartbeats 2000000 in
theorem specGainBy (rule m : Int) (A : Option Addr) (n c : Nat) (vs : List Vt) (k : Int) (w : World) (h : VotesAt w A n vs) (hn : n ≤ 1048576) (hx : ∀ v ∈ vs, v.r.length ≤ 1048576) :
    Calls Tryz.prog 6 #[.int .i64 rule, .agg #[.int .i64 m, .slice A n c], .int .i64 k] w fun e w' => ∃ A' c', e = .returned (.tuple #[.slice A' (gainR rule m vs k).length c', .bool (gainOk rule m vs k)]) ∧ IntsAt w' A' (gainR rule m vs k).length (gainR rule m vs k) ∧ (gainR rule m vs k).length ≤ c' ∧ Below w.heap.size w w' := by
  obtain rfl := h.len
  have hB := alloc_below w (.cells #[.int .i64 m, .slice A vs.length c] 31)
  obtain ⟨x0, x1⟩ := PBox.new w m A vs.length c 31 rfl
  replace h := h.below hB
  generalize hw0 : w.alloc (.cells #[.int .i64 m, .slice A vs.length c] 31) = w0 at *
  have KR0 : Hid (Calls Tryz.prog 18 #[.int .i64 rule, .agg #[.int .i64 m, .slice A vs.length c]] w0 fun e w' => e = .returned (.bool (playB rule m vs)) ∧ Below w0.heap.size w0 w') := specRule rule m A vs.length c vs w0 h hn hx
  have ew : IntKind.i64.wrap ((vs.length : Int) - 1) = (vs.length : Int) - 1 := IntWalk.i64_in _ (by omega)
  unfold gainR gainOk
  cases hpl : playB rule m vs
  · have hg : gainB rule m vs k = false := by unfold gainB; rw [hpl]; rfl
    rw [hg]
    simp only [Bool.false_and, Bool.false_eq_true, if_false, List.length_nil]
    rw [hpl] at KR0
    clear hx hg hpl
    go_enter Tryz.func6, Tryz.ntmps6
    go_wp2_with fail
    (with_reducible refine (KR0.out).mono ?_)
    rintro e w1 ⟨rfl, b1⟩
    replace hB := hB.trans (b1.mono hB.size)
    clear b1
    go_wp2
    go_ret2
    exact ⟨_, _, rfl, IntsAt.nil _ _, Nat.zero_le _, hB⟩
  rw [hpl] at KR0
  cases hin0 : inB k 0 ((vs.length : Int) - 1)
  · have hg : gainB rule m vs k = false := by unfold gainB; rw [hin0, Bool.and_false]
    rw [hg]
    simp only [Bool.false_and, Bool.false_eq_true, if_false, List.length_nil]
    clear hx hg hpl
    go_enter Tryz.func6, Tryz.ntmps6
    go_wp2_with fail
    (with_reducible refine (KR0.out).mono ?_)
    rintro e w1 ⟨rfl, b1⟩
    replace x0 := cell_carry b1 x0
    replace x1 := cell_carry b1 x1
    replace hB := hB.trans (b1.mono hB.size)
    clear b1
    go_wp2_with fail
    (with_reducible refine (l01In_any _ _ _ _).mono ?_)
    rintro e w2 ⟨rfl, rfl⟩
    rw [hin0]
    go_wp2
    go_ret2
    exact ⟨_, _, rfl, IntsAt.nil _ _, Nat.zero_le _, hB⟩
  have hg : gainB rule m vs k = true := by unfold gainB; rw [hin0, hpl]; rfl
  rw [hg]
  simp only [Bool.true_and]
  obtain ⟨K0, rfl, hk⟩ : ∃ K0 : Nat, k = (K0 : Int) ∧ K0 < vs.length := by
    rw [inB_iff] at hin0
    exact ⟨k.toNat, by omega, by omega⟩
  obtain ⟨hp, m4, r1, r13⟩ := playB_iff.1 hpl
  have F := pf_of hp
  rw [Int.toNat_natCast]
  have hr := F.r _ (vx_mem hk)
  have tl : (vx vs K0).r.length ≤ 5 := by have := (rankOk_facts hr).2; omega
  have KY := Lib.hid (fun B d W hW g hd => specReply rule m A vs.length c vs K0 B d (vx vs K0).r W hW hn hx hp hk r1 r13 g hd hr)
  have KW := Lib.hid (fun W hW => specWinnerBy rule m A vs.length c vs W hW hn hx)
  have HG : Hid (gains rule m vs K0 = pref (vx vs K0).r (replyW rule m vs K0 (vx vs K0).r) (winnerR rule m vs)) := rfl
  generalize gains rule m vs K0 = gb at *
  generalize replyR rule m vs K0 (vx vs K0).r = rep at *
  generalize replyW rule m vs K0 (vx vs K0).r = Wn at *
  generalize winnerR rule m vs = W0 at *
  obtain ⟨b, o, A', c', rfl, _, hc1, _, hcc, hin⟩ := h.at_ hk
  have kk : (K0 : Int) < (vs.length : Int) := by omega
  generalize vx vs K0 = v at *
  clear F hp hpl hg hx m4 hr
  go_enter Tryz.func6, Tryz.ntmps6
  go_wp2_with fail
  (with_reducible refine (KR0.out).mono ?_)
  rintro e w1 ⟨rfl, b1⟩
  replace x0 := cell_carry b1 x0
  replace x1 := cell_carry b1 x1
  replace hc1 := cell_carry b1 hc1
  replace h := h.below b1
  replace hin := hin.below b1
  replace hB := hB.trans (b1.mono hB.size)
  clear b1
  clear KR0 hw0
  go_wp2_with fail
  (with_reducible refine (l01In_any _ _ _ _).mono ?_)
  rintro e w2 ⟨rfl, rfl⟩
  rw [hin0]
  clear hin0
  go_upto_region 3 with fail
  have z0 := hB.size
  have hbw := (Below.refl w1.heap.size w1).drew
  go_region_held3 (fun w' => w'.cell? ⟨w.heap.size, 0, none⟩ = some (.int .i64 m) ∧ w'.cell? ⟨w.heap.size, 1, none⟩ = some (.slice (some ⟨b, o, none⟩) vs.length c) ∧ w'.cell? ⟨b, o + K0 * 2, none⟩ = some (.slice A' v.r.length c')) ((refine ⟨?_, ?_, ?_⟩ <;> (first | assumption | go_keep)))
    ((go_at_call 20; have KK := KY.out _ _ _ (h.below hbw) (hin.below hbw) hcc; (with_reducible refine KK.mono ?_); rintro e w2 ⟨A2, c2, rfl, o2, hc2, b2⟩; have x0 := cell_carry b2 x0; have x1 := cell_carry b2 x1; have hc1 := cell_carry b2 hc1; have hbw := hbw.trans (b2.mono hbw.size)))
  have h2 := h.below hbw
  have hin2 := hin.below hbw
  have hB2 := hB.trans (hbw.mono hB.size)
  have K2 : Hid (∀ L : Later w2, Calls Tryz.prog 22 #[.int .i64 rule, .agg #[.int .i64 m, .slice (some ⟨b, o, none⟩) vs.length c]] L.W fun e W' => e = .returned (.int .i64 W0) ∧ ∃ L' : Later w2, W' = L'.W) :=
    fun L => L.call (KW.out L.W (h2.below L.h))
  have K3 : Hid (∀ L : Later w2, Calls Tryz.prog 21 #[.slice A' v.r.length c', .int .i64 Wn, .int .i64 W0] L.W fun e W' => e = .returned (.bool gb) ∧ ∃ L' : Later w2, W' = L'.W) :=
    fun L => by rw [HG.out]; exact L.call_same (specPrefers A' _ c' v.r Wn W0 L.W (hin2.below L.h) (by omega))
  have q0 : ∀ L : Later w2, L.W.cell? ⟨w.heap.size, 0, none⟩ = some (.int .i64 m) := fun L => L.cell x0
  have q1 : ∀ L : Later w2, L.W.cell? ⟨w.heap.size, 1, none⟩ = some (.slice (some ⟨b, o, none⟩) vs.length c) := fun L => L.cell x1
  have q4 : ∀ L : Later w2, L.W.cell? ⟨b, o + K0 * 2, none⟩ = some (.slice A' v.r.length c') := fun L => L.cell hc1
  clear hbw hB b2 x0 x1 hc1 h hin h2 hin2 KW KY HG
  go_upto_region 4 with fail
  cases gb
  · skip
    refine wp_region_later (by kernel_rfl) (by kernel_rfl) ?_
    repeat (go_big_quiet_step (first | (with_reducible exact K2.out _) | (with_reducible exact K3.out _)))
    (refine wpQuiet_nil ?_; rintro wl ⟨L_, hwl_⟩; have hbl := L_.h; rw [← hwl_] at hbl; clear hwl_ L_)
    clear q0 q1 q4 K2 K3
    go_wp2
    go_ret2
    first
      | exact ⟨none, 0, rfl, IntsAt.nil _ _, hB2.trans (hbl.mono hB2.size)⟩
      | exact ⟨none, ⟨0, rfl⟩, IntsAt.nil _ _, hB2.trans (hbl.mono hB2.size)⟩
      | exact ⟨none, 0, IntsAt.nil _ _, hB2.trans (hbl.mono hB2.size)⟩
      | trace_state
  · skip
    refine wp_region_later (by kernel_rfl) (by kernel_rfl) ?_
    repeat (go_big_quiet_step (first | (with_reducible exact K2.out _) | (with_reducible exact K3.out _)))
    (refine wpQuiet_nil ?_; rintro wl ⟨L_, hwl_⟩; have hbl := L_.h; rw [← hwl_] at hbl; clear hwl_ L_)
    have HO := Lib.hid (o2.below hbl)
    clear q0 q1 q4 K2 K3 o2
    go_wp2
    go_ret2
    exact ⟨_, _, rfl, HO.out, hc2, hB2.trans (hbl.mono hB2.size)⟩
end Go.Proofs.YtcjnjnegaoihoaaGreat
namespace Go.Proofs.YtcjnjnegaoihoaaGreat
set_option linter.unusedSimpArgs false
set_option linter.unusedVariables false
open Go.RowKit

/-- a slice of numbers that is only read; its block lies below hi -/
structure RdI (w : World) (hi : Nat) (A : Option Addr) (n : Nat) (xs : List Int) : Prop where
  at_ : IntsAt w A n xs
  lt : ∀ a, A = some a → 0 < n → a.block < hi
theorem RdI.of {w : World} {A : Option Addr} {n : Nat} {xs : List Int} (h : IntsAt w A n xs) : RdI w w.heap.size A n xs :=
  ⟨h, fun a e hn => by obtain ⟨b, o, e2, hb, _⟩ := h.at_ (k := 0) hn; rw [e] at e2; cases e2; exact hb⟩
theorem RdI.belowW {w w' : World} {hi : Nat} {A : Option Addr} {n : Nat} {xs : List Int} (h : RdI w hi A n xs) (hb : Below w.heap.size w w') : RdI w' hi A n xs := ⟨h.at_.below hb, h.lt⟩
theorem RdI.only {w w' : World} {hi l2 h2 : Nat} {A : Option Addr} {n : Nat} {xs : List Int} (h : RdI w hi A n xs) (ho : Only l2 h2 w w') (hd : hi ≤ l2 ∧ hi ≤ w.heap.size) : RdI w' hi A n xs :=
  ⟨h.at_.keepB h.lt (ho.toBelow hd.1 hd.2), h.lt⟩
theorem gainR_len (rule m : Int) (vs : List Vt) (k : Int) : (gainR rule m vs k).length ≤ 1048576 := by
  unfold gainR
  split
  · rename_i h
    rw [Bool.and_eq_true] at h
    have hg := h.1
    unfold gainB at hg
    rw [Bool.and_eq_true, inB_iff] at hg
    obtain ⟨hp, m4, r1, r13⟩ := playB_iff.1 hg.1
    have F := pf_of hp
    have hk : k.toNat < vs.length := by omega
    have RF := reply_facts (rule := rule) (truth := (vx vs k.toNat).r) hp hk r1 r13 (F.r _ (vx_mem hk))
    have := (rankOk_facts RF.ok).2
    omega
  · simp
theorem specGainByC (rule m : Int) (A : Option Addr) (n c : Nat) (vs : List Vt) (k : Int) (w : World) (h : VotesAt w A n vs) (hn : n ≤ 1048576) (hx : ∀ v ∈ vs, v.r.length ≤ 1048576) :
    Calls Tryz.prog 6 #[.int .i64 rule, .agg #[.int .i64 m, .slice A n c], .int .i64 k] w fun e w' => ∃ A' c', e = .returned (.tuple #[.slice A' (gainR rule m vs k).length c', .bool (gainOk rule m vs k)]) ∧ RdI w' w'.heap.size A' (gainR rule m vs k).length (gainR rule m vs k) ∧ (gainR rule m vs k).length ≤ 1048576 ∧ Below w.heap.size w w' :=
  (specGainBy rule m A n c vs k w h hn hx).mono fun e w' ⟨A', c', h1, h2, _, h4⟩ => ⟨A', c', h1, RdI.of h2, gainR_len rule m vs k, h4⟩
theorem implGainByC (rule m : Int) (A : Option Addr) (n c : Nat) (vs : List Vt) (k : Int) (w : World) (h : VotesAt w A n vs) (hn : n ≤ 1048576) (hx : ∀ v ∈ vs, v.r.length ≤ 1048576) :
    Calls Tryz.prog 8 #[.int .i64 rule, .agg #[.int .i64 m, .slice A n c], .int .i64 k] w fun e w' => ∃ A' c', e = .returned (.tuple #[.slice A' (gainR rule m vs k).length c', .bool (gainOk rule m vs k)]) ∧ OwnI w' w.heap.size w'.heap.size (.slice A' (gainR rule m vs k).length c') (gainR rule m vs k) ∧ (gainR rule m vs k).length ≤ 1048576 ∧ Below w.heap.size w w' :=
  (implGainBy rule m A n c vs k w h hn hx).mono fun e w' ⟨A', c', h1, h2, h4⟩ => ⟨A', c', h1, h2, gainR_len rule m vs k, h4⟩
end Go.Proofs.YtcjnjnegaoihoaaGreat
namespace Go.Proofs.YtcjnjnegaoihoaaGreat
set_option linter.unusedSimpArgs false
set_option linter.unusedVariables false
open Go.RowKit

theorem copy_set (xs : List Int) (k : Nat) (hk : k < xs.length) (n : Nat) (hn : n = xs.length) : (xs.take k ++ List.replicate (n - k) 0).set k (ix xs k) = xs.take (k + 1) ++ List.replicate (n - (k + 1)) 0 := by
  subst hn
  apply List.ext_getElem?
  intro j
  rw [ix_lt hk]
  by_cases h1 : j < k
  · rw [List.getElem?_set_ne (by omega), List.getElem?_append_left (by simp; omega), List.getElem?_append_left (by simp; omega)]
    simp [h1, show j < k + 1 by omega]
  · by_cases h2 : j = k
    · subst h2
      rw [List.getElem?_set_self (by simp; omega), List.getElem?_append_left (by simp; omega)]
      simp [hk]
    · rw [List.getElem?_set_ne (by omega), List.getElem?_append_right (by simp; omega), List.getElem?_append_right (by simp; omega)]
      simp only [List.length_take, List.getElem?_replicate]
      have a1 : min k xs.length = k := by omega
      have a2 : min (k + 1) xs.length = k + 1 := by omega
      rw [a1, a2]
      by_cases h3 : j < xs.length
      · rw [if_pos (by omega), if_pos (by omega)]
      · rw [if_neg (by omega), if_neg (by omega)]

set_option maxHeartbeats 400000 in
theorem toIntS_any (A : Option Addr) (n c : Nat) (xs : List Int) (w : World) (h : IntsAt w A n xs) (hn : n ≤ 1048576) :
    Calls Tryz.prog 55 #[.slice A n c] w fun e w' => ∃ A' c', e = .returned (.slice A' n c') ∧ OwnI w' w.heap.size w'.heap.size (.slice A' n c') xs ∧ Below w.heap.size w w' := by
  go_enter Tryz.func55, Tryz.ntmps55
  go_wp2_with (first | (at_make; refine wpList_make_ints _ rfl _ _ rfl n rfl rfl (by omega) ?_) | go_in)
  intro w1 hown1 hb1 hz1
  go_wp2
  go_loopw [4] (fun i wr => ∃ k : Nat, k ≤ n ∧ i = .int .i64 k ∧ OwnI wr w.heap.size (w.heap.size + 1) (.slice (some ⟨w.heap.size, 0, none⟩) n n) (xs.take k ++ List.replicate (n - k) 0) ∧ w.heap.size + 1 ≤ wr.heap.size ∧ Below w.heap.size w wr)
    (fun i _ => n - (intOf i).toNat)
  case atStart => exact ⟨0, Nat.zero_le _, rfl, by simpa using hown1, by omega, hb1⟩
  case round =>
    obtain ⟨k, hk, rfl, hown, hz, hb⟩ := hrel
    clear hown1 hb1 hz1
    have hl := h.len
    by_cases hlt : k < n
    · obtain ⟨b, o, rfl, hbl, hc⟩ := (h.below hb).at_ hlt
      have hck := hc k hlt
      clear hc
      have hd := hown.cellAt k hlt
      have hf := hown.frozenAt k
      have hst := hown.stored k (ix xs k)
      rw [copy_set xs k (by omega) n hl.symm] at hst
      go_wp2
      go_roundw
      case rel => exact ⟨k + 1, by omega, by go_num, hst.1, by simpa using hz, hb.setCell (Nat.le_refl _) _⟩
      case measure => simp [intOf]; omega
    · obtain rfl : k = n := by omega
      go_wp2
      go_ret
      refine ⟨_, _, rfl, OwnI.mono ?_ (Nat.le_refl _) hz, hb⟩
      simpa [List.take_of_length_le, hl] using hown

theorem eqIntS_eq (A A' : Option Addr) (n n' c c' : Nat) (xs : List Int) (w : World) (h : IntsAt w A n xs) (h' : IntsAt w A' n' xs) (hn : n ≤ 1099511627776) :
    Calls Tryz.prog 9 #[.slice A n c, .slice A' n' c'] w fun e w' => e = .returned (.bool true) ∧ ∃ m, w' = w.drewN m := by
  obtain rfl : n' = n := by rw [← h.len, ← h'.len]
  go_enter Tryz.func9, Tryz.ntmps9
  go_wp2
  go_loopw [5] (fun i wr => ∃ k m : Nat, k ≤ n' ∧ i = .int .i64 k ∧ wr = w.drewN m) (fun i _ => n' - (intOf i).toNat)
  case atStart => exact ⟨0, 0, Nat.zero_le _, rfl, rfl⟩
  case round =>
    obtain ⟨k, m, hk, rfl, rfl⟩ := hrel
    by_cases hlt : k < n'
    · obtain ⟨b, o, rfl, _, hc⟩ := h.at_ hlt
      obtain ⟨b2, o2, rfl, _, hc2⟩ := h'.at_ hlt
      have hck := hc k hlt
      have hck2 := hc2 k hlt
      clear hc hc2
      go_wp2
      go_quiet (fail)
      go_wp2
      go_roundw
      case rel => exact ⟨k + 1, _, by omega, by go_num, rfl⟩
      case measure => simp [intOf]; omega
    · obtain rfl : k = n' := by omega
      go_wp2
      go_ret
      exact ⟨rfl, _, rfl⟩

def marks (k : Int) (n : Nat) : List Int := (List.range n).map fun (j : Nat) => k + (j : Int)
theorem marks_len (k : Int) (n : Nat) : (marks k n).length = n := by simp [marks]
theorem ix_marks (k : Int) (n j : Nat) (h : j < n) : ix (marks k n) j = k + (j : Int) := by rw [ix_lt (by rw [marks_len]; exact h)]; simp [marks]
theorem marks_set (k : Int) (xs : List Int) (j : Nat) (h : j < xs.length) : (marks k j ++ xs.drop j).set j (k + (j : Int)) = marks k (j + 1) ++ xs.drop (j + 1) := by
  have e := List.drop_eq_getElem_cons h
  rw [List.set_append_right _ _ (by simp [marks])]
  simp only [marks, List.length_map, List.length_range, Nat.sub_self, List.range_succ, List.map_append, List.map_cons, List.map_nil, List.append_assoc, List.cons_append, List.nil_append]
  rw [e]
  rfl

set_option maxHeartbeats 400000 in
theorem markIntS_any (A : Option Addr) (n c lo hi : Nat) (xs : List Int) (k0 : Int) (w : World) (h : OwnI w lo hi (.slice A n c) xs) (hn : n ≤ 1099511627776) (h0 : 0 ≤ k0) (h1 : k0 ≤ 1152921504606846976) :
    Calls Tryz.prog 12 #[.slice A n c, .int .i64 k0] w fun e w' => e = .returned (.int .i64 (k0 + n)) ∧ OwnI w' lo hi (.slice A n c) (marks k0 n) ∧ Only lo hi w w' := by
  have hl := h.ints.2.1
  go_enter Tryz.func12, Tryz.ntmps12
  go_wp2
  go_loopw [1, 5] (fun kk i wr => ∃ k : Nat, k ≤ n ∧ i = .int .i64 k ∧ kk = .int .i64 (k0 + k) ∧ OwnI wr lo hi (.slice A n c) (marks k0 k ++ xs.drop k) ∧ Only lo hi w wr)
    (fun _ i _ => n - (intOf i).toNat)
  case atStart => exact ⟨0, Nat.zero_le _, rfl, by simp, by simpa [marks] using h, Only.refl _ _ _⟩
  case round =>
    obtain ⟨k, hk, rfl, rfl, hown, hg⟩ := hrel
    by_cases hlt : k < n
    · obtain ⟨g, rfl, hg1, hg2⟩ := hown.head (by omega)
      have hd := hown.cellAt k hlt
      have hf := hown.frozenAt k
      have hst := hown.stored k (k0 + k)
      rw [marks_set k0 xs k (by omega)] at hst
      go_wp2
      go_roundw
      case rel => exact ⟨k + 1, by omega, by go_num, by go_num, hst.1, hg.trans (hst.2.mono hg1 (by omega))⟩
      case measure => simp [intOf]; omega
    · obtain rfl : k = n := by omega
      go_wp2
      go_ret
      refine ⟨by go_num, ?_, hg⟩
      rw [List.drop_of_length_le (by omega), List.append_nil] at hown
      exact hown

theorem heldIntS_any (A : Option Addr) (n c : Nat) (k0 : Int) (w : World) (h : IntsAt w A n (marks k0 n)) (hn : n ≤ 1099511627776) (h0 : 0 ≤ k0) (h1 : k0 ≤ 1152921504606846976) :
    Calls Tryz.prog 13 #[.slice A n c, .int .i64 k0] w fun e w' => e = .returned (.int .i64 (k0 + n)) ∧ w = w' := by
  go_enter Tryz.func13, Tryz.ntmps13
  go_wp2
  go_loop [1, 5] (fun kk i => ∃ k : Nat, k ≤ n ∧ i = .int .i64 k ∧ kk = .int .i64 (k0 + k)) (fun _ i => n - (intOf i).toNat)
  case atStart => exact ⟨0, Nat.zero_le _, rfl, by simp⟩
  case round =>
    obtain ⟨k, hk, rfl, rfl⟩ := hrel
    by_cases hlt : k < n
    · obtain ⟨b, o, rfl, _, hc⟩ := h.at_ hlt
      have hck := hc k hlt
      rw [ix_marks k0 n k hlt] at hck
      clear hc
      go_wp2
      go_round
      case rel => exact ⟨k + 1, by omega, by go_num, by go_num⟩
      case measure => simp [intOf]; omega
    · obtain rfl : k = n := by omega
      go_wp2
      go_ret
      exact ⟨by go_num, rfl⟩
end Go.Proofs.YtcjnjnegaoihoaaGreat
namespace Go.Proofs.YtcjnjnegaoihoaaGreat
set_option linter.unusedSimpArgs false
set_option linter.unusedVariables false
open Go.RowKit

theorem szIntS_any (A : Option Addr) (n c : Nat) (left : Int) (w : World) (hn : n ≤ 9223372036854775807) (h0 : 0 ≤ left) (h1 : left ≤ 1048576) :
    Calls Tryz.prog 51 #[.slice A n c, .int .i64 left] w fun e w' => ∃ r : Int, e = .returned (.int .i64 r) ∧ (0 ≤ r → r ≤ left ∧ n ≤ 1048576) ∧ r ≤ 1048576 ∧ w = w' := by
  go_enter Tryz.func51, Tryz.ntmps51
  by_cases h : left - n < 0
  · go_wp2
    go_ret
    exact ⟨_, rfl, fun hr => by omega, by omega, rfl⟩
  · have h' : 0 ≤ left - n := by omega
    go_wp2
    go_ret
    exact ⟨_, rfl, fun hr => by omega, by omega, rfl⟩


theorem rows_set (xss : List (List Int)) (k : Nat) (hk : k < xss.length) : (xss.take k ++ List.replicate (xss.length - k) []).set k (rx xss k) = xss.take (k + 1) ++ List.replicate (xss.length - (k + 1)) [] := by
  have e : xss.length - k = (xss.length - (k + 1)) + 1 := by omega
  rw [e, List.replicate_succ, List.set_append_right _ _ (by simp; omega), take_rx hk]
  simp [show min k xss.length = k by omega]



def marksR (k : Int) : List (List Int) → List (List Int)
  | [] => []
  | xs :: r => marks k xs.length :: marksR (k + xs.length) r
def endR (k : Int) : List (List Int) → Int
  | [] => k
  | xs :: r => endR (k + xs.length) r
theorem marksR_snoc (k : Int) (l : List (List Int)) (xs : List Int) : marksR k (l ++ [xs]) = marksR k l ++ [marks (endR k l) xs.length] := by
  induction l generalizing k with
  | nil => simp [marksR, endR]
  | cons y l ih => simp [marksR, endR, ih]
theorem endR_snoc (k : Int) (l : List (List Int)) (xs : List Int) : endR k (l ++ [xs]) = endR k l + xs.length := by
  induction l generalizing k with
  | nil => simp [endR]
  | cons y l ih => simp [endR, ih]
theorem marksR_len (k : Int) (l : List (List Int)) : (marksR k l).length = l.length := by
  induction l generalizing k with
  | nil => rfl
  | cons y l ih => simp [marksR, ih]
theorem rx_marksR (k : Int) (l : List (List Int)) (j : Nat) (h : j < l.length) : rx (marksR k l) j = marks (endR k (l.take j)) (rx l j).length := by
  induction l generalizing k j with
  | nil => simp at h
  | cons y l ih =>
    cases j with
    | zero => simp [marksR, rx, endR]
    | succ j =>
      have := ih (k + y.length) j (by simpa using h)
      simpa [marksR, rx, endR] using this
theorem endR_ge (k : Int) (l : List (List Int)) : k ≤ endR k l := by
  induction l generalizing k with
  | nil => simp [endR]
  | cons y l ih => have := ih (k + y.length); simp only [endR]; omega
theorem endR_le (k : Int) (l : List (List Int)) (b : Nat) (hx : ∀ xs ∈ l, xs.length ≤ b) : endR k l ≤ k + l.length * b := by
  induction l generalizing k with
  | nil => simp [endR]
  | cons y l ih =>
    have h1 := ih (k + y.length) (fun xs h => hx xs (by simp [h]))
    have h2 := hx y (by simp)
    simp only [endR, List.length_cons, Int.natCast_add, Int.add_mul]
    omega
theorem marksR_set (k0 : Int) (xss : List (List Int)) (k : Nat) (hk : k < xss.length) :
    (marksR k0 (xss.take k) ++ xss.drop k).set k (marks (endR k0 (xss.take k)) (rx xss k).length) = marksR k0 (xss.take (k + 1)) ++ xss.drop (k + 1) := by
  have e := List.drop_eq_getElem_cons hk
  have hl : (marksR k0 (xss.take k)).length = k := by rw [marksR_len]; simp; omega
  rw [take_rx hk, marksR_snoc, List.set_append_right _ _ (by omega), hl, Nat.sub_self, e]
  simp only [List.set_cons_zero, List.append_assoc, List.cons_append, List.nil_append]


end Go.Proofs.YtcjnjnegaoihoaaGreat
namespace Go.Proofs.YtcjnjnegaoihoaaGreat
set_option linter.unusedSimpArgs false
set_option linter.unusedVariables false
open Go.RowKit

theorem Only.setCell (w : World) (g j : Nat) (s : Option Nat) (u : Value) : Only g (g + 1) w (w.setCell ⟨g, j, s⟩ u) :=
  ⟨rfl, rfl, rfl, by simp [World.setCell], fun k _ hk => Below.heap_setCell _ _ _ _ (by simp; omega)⟩
theorem Only.drew {lo hi : Nat} {w w' : World} (h : Only lo hi w w') : Only lo hi w w'.drew := ⟨h.os, h.tape, h.output, h.size, h.block⟩

end Go.Proofs.YtcjnjnegaoihoaaGreat
