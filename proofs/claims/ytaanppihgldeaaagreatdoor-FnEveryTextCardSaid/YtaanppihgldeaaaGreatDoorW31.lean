/- Who beats all others, who has a majority, and whether a rule misses them: the program's side. Support for the winner: RaiseIn, MonotoneFailure, the program's side. slices.Concat of two slices of votes. slices.Concat of two slices of votes: the walks. -/
import Derived.Test.YtaanppihgldeaaaGreatDoorW21
import Derived.Test.YtaanppihgldeaaaGreatDoorW30
import Derived.Test.YtaanppihgldeaaaGreatDoorW18
import Derived.Test.YtaanppihgldeaaaGreatDoorW12
import Derived.Test.YtaanppihgldeaaaGreatDoorW05
import Derived.Deep.Slices
namespace Go.Proofs.YtaanppihgldeaaaGreatDoor
set_option linter.unusedSimpArgs false
set_option linter.unusedVariables false
set_option linter.unusedVariables false
open Go.RowKit

def onlyR (l : List Int) : Int := if l.length = 1 then ix l 0 else -1
def condW (m : Int) (vs : List Vt) : Int := onlyR (thoseR m vs (beatsP vs))
theorem condW_is {m : Int} {vs : List Vt} (hp : profOk m vs = true) (h : 0 ≤ condW m vs) : Cond m vs (condW m vs) := by
  have F := pf_of hp
  unfold condW onlyR at *
  split at h
  · rename_i h1
    rw [if_pos h1]
    have hm := ix_mem (xs := thoseR m vs (beatsP vs)) (j := 0) (by omega)
    generalize ix (thoseR m vs (beatsP vs)) 0 = a at *
    unfold thoseR thoseP at hm
    rw [hp, if_pos rfl] at hm
    obtain ⟨j, hj, rfl, hb⟩ := thoseTo_mem.1 hm
    refine ⟨by omega, by omega, fun b b0 b1 hne => ?_⟩
    have := hb b.toNat (by omega)
    rw [Bool.or_eq_true, beq_iff_eq, Int.toNat_of_nonneg b0] at this
    rcases this with e | e
    · exact absurd (by omega) hne
    · unfold beatsP marginP at e
      rw [decide_eq_true_eq] at e
      omega
  · omega
def majW (m : Int) (vs : List Vt) : Int := idxP (fun x => decide (votersP vs < 2 * x)) (scores m vs (plurW m)) 0
theorem majW_is {m : Int} {vs : List Vt} (hp : profOk m vs = true) (h : 0 ≤ majW m vs) : Maj m vs (majW m vs) := by
  have F := pf_of hp
  have m1 := F.m1
  unfold majW at *
  rcases idxP_bd (fun x => decide (votersP vs < 2 * x)) (scores m vs (plurW m)) 0 with e | ⟨h1, h2, h3⟩
  · omega
  · generalize idxP (fun x => decide (votersP vs < 2 * x)) (scores m vs (plurW m)) 0 = a at *
    rw [scores_len] at h2
    refine ⟨by omega, by omega, ?_⟩
    rw [decide_eq_true_eq, scores_ix F _ (by omega), plur_sco F _ (by omega), Int.toNat_of_nonneg (by omega)] at h3
    exact h3
def missB (w d : Int) : Bool := decide (0 ≤ w) && decide (0 ≤ d) && decide (w ≠ d)
theorem small_of {m : Int} {vs : List Vt} (F : PF m vs) : vs.length ≤ 1048576 ∧ ∀ v ∈ vs, v.r.length ≤ 1048576 :=
  ⟨by have := F.n; omega, fun v hv => by have := F.l v hv; have := F.m5; omega⟩
theorem misses_any (a b : Int) (w : World) : Calls Tryz.prog 25 #[.int .i64 a, .int .i64 b] w fun e w' => e = .returned (.bool (missB a b)) ∧ w = w' := by
  unfold missB
  by_cases h1 : 0 ≤ a <;> by_cases h2 : 0 ≤ b <;> by_cases h3 : a = b
  all_goals
    go_enter Tryz.func25, Tryz.ntmps25
    go_wp2
    all_goals go_ret
    all_goals exact ⟨(ret_b (by first | rfl | (simp; done) | (simp [*]; done) | (rw [Bool.eq_iff_iff]; simp; omega) | (rw [Bool.eq_iff_iff]; simp [*]; omega) | (simp [*]; omega))), rfl⟩
theorem cond1 (m : Int) (A : Option Addr) (n c g : Nat) (vs : List Vt) (a b : Int) (W : World) (h : VotesAt W A n vs) (F : PF m vs) (x0 : W.cell? ⟨g, 0, none⟩ = some (.int .i64 m)) (x1 : W.cell? ⟨g, 1, none⟩ = some (.slice A n c)) :
    Calls Tryz.prog 53 #[.int .i64 a, .int .i64 b, .pointer (some ⟨g, 0, none⟩)] W fun e W' => e = .returned (.bool (beatsP vs a b)) ∧ Below W.heap.size W W' := by
  have K := Lib.hid (implBeats m A n c vs a b W h F)
  go_enter Tryz.func53, Tryz.ntmps53
  go_wp2_with fail
  (with_reducible refine K.out.mono ?_)
  rintro e w1 ⟨rfl, b1⟩
  go_wp2
  go_ret
  exact ⟨rfl, b1⟩
set_option maxHeartbeats 400000 in
theorem implOnly (g : Nat) (lb : Array Value) (p : Int → Int → Bool) (m : Int) (A : Option Addr) (n c : Nat) (vs : List Vt) (w : World) (h : VotesAt w A n vs) (hn : n ≤ 1048576) (hx : ∀ v ∈ vs, v.r.length ≤ 1048576)
    (hen : ∀ (args : Array Value) (w : World), (callFunc g args).run Tryz.prog w = .ok (.enter g args) w)
    (hg : profOk m vs = true → ∀ (a b : Nat) W, (a : Int) < m → (b : Int) < m → a ≠ b → Below w.heap.size w W → Calls Tryz.prog g (#[.int .i64 (a : Int), .int .i64 (b : Int)] ++ lb) W fun e W' => e = .returned (.bool (p (a : Int) (b : Int))) ∧ Below W.heap.size W W') :
    Calls Tryz.prog 52 #[.agg #[.int .i64 m, .slice A n c], .func (.func g) #[] lb] w fun e w' => e = .returned (.int .i64 (onlyR (thoseR m vs p))) ∧ Below w.heap.size w w' := by
  obtain rfl := h.len
  have hB := alloc_below w (.cells #[.int .i64 m, .slice A vs.length c] 24)
  obtain ⟨x0, x1⟩ := PBox.new w m A vs.length c 24 rfl
  replace h := h.below hB
  generalize hw0 : w.alloc (.cells #[.int .i64 m, .slice A vs.length c] 24) = w0 at *
  have K := Lib.hid (implThose g lb p m A vs.length c vs w0 h hn hx hen fun hp a b W ha hb hab hW => hg hp a b W ha hb hab (hB.trans (hW.mono hB.size)))
  clear hx hg
  generalize thoseR m vs p = T at *
  have H1 : Hid (T.length = 1 → onlyR T = ix T 0) := fun h1 => if_pos h1
  have H2 : Hid (¬ T.length = 1 → onlyR T = -1) := fun h1 => if_neg h1
  generalize onlyR T = V at *
  go_enter Tryz.func52, Tryz.ntmps52
  go_wp2_with fail
  (with_reducible refine K.out.mono ?_)
  rintro e w1 ⟨A1, c1, rfl, o1, b1⟩
  have hB1 := hB.trans (b1.mono hB.size)
  clear b1 K hB
  by_cases h1 : T.length = 1
  · obtain rfl := H1.out h1
    have hT1 : (T.length : Int) = 1 := by omega
    obtain ⟨b, o, rfl, _, hc⟩ := o1.at_.at_ (k := 0) (by omega)
    have d := hc 0 (by omega)
    rw [Nat.add_zero] at d
    clear hc o1
    rw [h1] at *
    go_wp2
    go_ret
    exact ⟨rfl, hB1⟩
  · obtain rfl := H2.out h1
    have hT1 : ¬ (T.length : Int) = 1 := by omega
    have hT2 : ((T.length : Int) == 1) = false := by rw [beq_eq_false_iff_ne]; exact hT1
    go_wp2
    go_ret
    exact ⟨rfl, hB1⟩
set_option maxHeartbeats 400000 in
theorem implCondorcet (m : Int) (A : Option Addr) (n c : Nat) (vs : List Vt) (w : World) (h : VotesAt w A n vs) (hn : n ≤ 1048576) (hx : ∀ v ∈ vs, v.r.length ≤ 1048576) :
    Calls Tryz.prog 26 #[.agg #[.int .i64 m, .slice A n c]] w fun e w' => e = .returned (.int .i64 (condW m vs)) ∧ Below w.heap.size w w' := by
  obtain rfl := h.len
  have hB := alloc_below w (.cells #[.int .i64 m, .slice A vs.length c] 24)
  obtain ⟨x0, x1⟩ := PBox.new w m A vs.length c 24 rfl
  replace h := h.below hB
  generalize hw0 : w.alloc (.cells #[.int .i64 m, .slice A vs.length c] 24) = w0 at *
  have K := Lib.hid (implOnly 53 (#[.pointer (some ⟨w.heap.size, 0, none⟩)]) (beatsP vs) m A vs.length c vs w0 h hn hx (enters Tryz.func53 (by kernel_rfl) rfl)
    fun hp a b W ha hb hab hW => cond1 m A vs.length c w.heap.size vs (a : Int) (b : Int) W (h.below hW) (pf_of hp) (cell_carry hW x0) (cell_carry hW x1))
  have HT : onlyR (thoseR m vs (beatsP vs)) = condW m vs := rfl
  rw [HT] at K
  clear hx HT
  go_enter Tryz.func26, Tryz.ntmps26
  go_wp2_with fail
  (with_reducible refine K.out.mono ?_)
  rintro e w1 ⟨rfl, b1⟩
  go_wp2
  go_ret
  exact ⟨rfl, hB.trans (b1.mono hB.size)⟩
theorem implMissesCondorcet (rule m : Int) (A : Option Addr) (n c : Nat) (vs : List Vt) (w : World) (h : VotesAt w A n vs) (hn : n ≤ 1048576) (hx : ∀ v ∈ vs, v.r.length ≤ 1048576) :
    Calls Tryz.prog 6 #[.int .i64 rule, .agg #[.int .i64 m, .slice A n c]] w fun e w' => e = .returned (.bool (missB (winnerR rule m vs) (condW m vs))) ∧ Below w.heap.size w w' := by
  obtain rfl := h.len
  have hB := alloc_below w (.cells #[.int .i64 m, .slice A vs.length c] 24)
  obtain ⟨x0, x1⟩ := PBox.new w m A vs.length c 24 rfl
  replace h := h.below hB
  generalize hw0 : w.alloc (.cells #[.int .i64 m, .slice A vs.length c] 24) = w0 at *
  have K1 : Hid (∀ L : Later w0, Calls Tryz.prog 7 #[.int .i64 rule, .agg #[.int .i64 m, .slice A vs.length c]] L.W fun e W' => e = .returned (.int .i64 (winnerR rule m vs)) ∧ ∃ L' : Later w0, W' = L'.W) :=
    fun L => L.call (implWinnerBy rule m A vs.length c vs L.W (h.below L.h) hn hx)
  have K2 : Hid (∀ L : Later w0, Calls Tryz.prog 26 #[.agg #[.int .i64 m, .slice A vs.length c]] L.W fun e W' => e = .returned (.int .i64 (condW m vs)) ∧ ∃ L' : Later w0, W' = L'.W) :=
    fun L => L.call (implCondorcet m A vs.length c vs L.W (h.below L.h) hn hx)
  have K3 : Hid (∀ (a b : Int) (L : Later w0), Calls Tryz.prog 25 #[.int .i64 a, .int .i64 b] L.W fun e W' => e = .returned (.bool (missB a b)) ∧ ∃ L' : Later w0, W' = L'.W) :=
    fun a b L => L.call_same (misses_any a b L.W)
  have q0 : ∀ L : Later w0, L.W.cell? ⟨w.heap.size, 0, none⟩ = some (.int .i64 m) := fun L => L.cell x0
  have q1 : ∀ L : Later w0, L.W.cell? ⟨w.heap.size, 1, none⟩ = some (.slice A vs.length c) := fun L => L.cell x1
  clear x0 x1 h hx
  generalize winnerR rule m vs = a at *
  generalize condW m vs = b at *
  go_enter Tryz.func6, Tryz.ntmps6
  go_upto_region 1 with fail
  clear hw0
  refine wp_region_later (by kernel_rfl) (by kernel_rfl) ?_
  repeat (go_big_quiet_step (first | (with_reducible exact K1.out _) | (with_reducible exact K2.out _) | (with_reducible exact K3.out _ _ _)))
  (refine wpQuiet_nil ?_; rintro wl ⟨L_, hwl_⟩; have hbl := L_.h; rw [← hwl_] at hbl; clear hwl_ L_)
  clear q0 q1 K1 K2 K3
  go_wp2
  go_ret
  exact ⟨rfl, hB.trans (hbl.mono hB.size)⟩
set_option maxHeartbeats 800000 in
theorem implFirstPlaces (m : Int) (A : Option Addr) (n c : Nat) (vs : List Vt) (w : World) (h : VotesAt w A n vs) (hn : n ≤ 1048576) (hx : ∀ v ∈ vs, v.r.length ≤ 1048576) :
    Calls Tryz.prog 77 #[.agg #[.int .i64 m, .slice A n c]] w fun e w' => ∃ A' c', e = .returned (.slice A' (scoresR m vs (plurW m)).length c') ∧ OwnI w' w.heap.size w'.heap.size (.slice A' (scoresR m vs (plurW m)).length c') (scoresR m vs (plurW m)) ∧ Below w.heap.size w w' := by
  obtain rfl := h.len
  have hB := alloc_below w (.cells #[.int .i64 m, .slice A vs.length c] 24)
  obtain ⟨x0, x1⟩ := PBox.new w m A vs.length c 24 rfl
  replace h := h.below hB
  generalize hw0 : w.alloc (.cells #[.int .i64 m, .slice A vs.length c] 24) = w0 at *
  have wl : (plurW m).length ≤ 5 := wts_len
  have KP := Lib.hid (fun W => implPlurality m W)
  have KS := Lib.hid (fun B d W hW q => implScoresOf m A vs.length c vs B (plurW m).length d (plurW m) W hW hn hx q (by omega))
  clear hx
  generalize plurW m = ws at *
  generalize scoresR m vs ws = T at *
  have z0 := hB.size
  go_enter Tryz.func77, Tryz.ntmps77
  go_upto_region 1 with fail
  clear hw0
  have hbw := (Below.refl w0.heap.size w0).drew
  go_region_held3 (fun w' => w'.cell? ⟨w.heap.size, 0, none⟩ = some (.int .i64 m) ∧ w'.cell? ⟨w.heap.size, 1, none⟩ = some (.slice A vs.length c)) ((refine ⟨?_, ?_⟩ <;> (first | assumption | go_keep)))
    (first
      | (go_at_call 56; have KK := KP.out w0.drew; (with_reducible refine KK.mono ?_); rintro e w1 ⟨A1, c1, rfl, o1, b1⟩; have x0 := cell_carry b1 x0; have x1 := cell_carry b1 x1; have hbw := hbw.trans (b1.mono hbw.size))
      | (go_at_call 97; have KK := KS.out A1 c1 _ (h.below hbw) o1.at_; (with_reducible refine KK.mono ?_); rintro e w2 ⟨A2, c2, rfl, o2, b2⟩; have x0 := cell_carry b2 x0; have x1 := cell_carry b2 x1; have s1 := hbw.size; have hbw := hbw.trans (b2.mono hbw.size)))
  all_goals
    have HO := Lib.hid (o2.mono (show w.heap.size ≤ w1.heap.size by omega) (Nat.le_refl _))
    have HB := Lib.hid (hB.trans (hbw.mono hB.size))
    clear o1 o2 b1 b2 hbw hB KP KS
    go_wp2
    go_ret
    exact ⟨_, _, rfl, HO.out, HB.out⟩
set_option maxHeartbeats 800000 in
theorem implMajorityAt (m : Int) (A : Option Addr) (n c : Nat) (vs : List Vt) (w : World) (h : VotesAt w A n vs) (hp : profOk m vs = true) :
    Calls Tryz.prog 34 #[.agg #[.int .i64 m, .slice A n c]] w fun e w' => e = .returned (.int .i64 (majW m vs)) ∧ Below w.heap.size w w' := by
  obtain rfl := h.len
  have hB := alloc_below w (.cells #[.int .i64 m, .slice A vs.length c] 24)
  obtain ⟨x0, x1⟩ := PBox.new w m A vs.length c 24 rfl
  replace h := h.below hB
  generalize hw0 : w.alloc (.cells #[.int .i64 m, .slice A vs.length c] 24) = w0 at *
  have F := pf_of hp
  obtain ⟨hn, hx⟩ := small_of F
  have K := Lib.hid (implFirstPlaces m A vs.length c vs w0 h hn hx)
  rw [scoresR_is hp (plur_ok F.m1 F.m5)] at K
  have KV := Lib.hid (fun W hW => implCountVoters m A vs.length c vs W hW hn hx)
  rw [hp, if_pos rfl] at KV
  have SB := Lib.hid (fun i => scores_bd F (plur_ok F.m1 F.m5) i)
  unfold majW
  have tl : (scores m vs (plurW m)).length ≤ 5 := by rw [scores_len]; have := F.m5; omega
  generalize scores m vs (plurW m) = T at *
  generalize votersP vs = V at *
  have STP := Lib.hid (fun i hi => idxP_step (fun x => decide (V < 2 * x)) T i hi)
  have EN := Lib.hid (idxP_end (fun x => decide (V < 2 * x)) T T.length (Nat.le_refl _))
  clear hx hp F
  go_enter Tryz.func34, Tryz.ntmps34
  go_wp2_with fail
  (with_reducible refine K.out.mono ?_)
  rintro e w1 ⟨A1, c1, rfl, o1, b1⟩
  replace x0 := cell_carry b1 x0
  replace x1 := cell_carry b1 x1
  replace h := h.below b1
  replace hB := hB.trans (b1.mono hB.size)
  have hi1 := o1.at_
  clear b1 K hw0 o1
  go_wp2
  go_loopw [3, 4, 8] (fun _ _ i wr => ∃ q : Nat, q ≤ T.length ∧ i = .int .i64 q ∧ Hid (idxP (fun x => decide (V < 2 * x)) T 0 = idxP (fun x => decide (V < 2 * x)) T q) ∧ Below w1.heap.size w1 wr) (fun _ _ i _ => T.length - (intOf i).toNat)
  case atStart => exact ⟨0, Nat.zero_le _, rfl, rfl, Below.refl _ _⟩
  case round =>
    obtain ⟨q, hq, rfl, HQ, hb⟩ := hrel
    by_cases hlq : q < T.length
    · obtain ⟨br, orr, rfl, _, hcr⟩ := (hi1.below hb).at_ hlq
      have d1 := hcr q hlq
      have sb := SB.out q
      have HST := Lib.hid (STP.out q hlq)
      have x0' := cell_carry hb x0
      have x1' := cell_carry hb x1
      have KK := Lib.hid (KV.out wr (h.below hb))
      generalize ix T q = x at *
      clear hcr
      have ew : IntKind.i64.wrap (2 * x) = 2 * x := IntWalk.i64_in _ (by omega)
      have i1 : (q : Int) < (T.length : Int) := by omega
      by_cases hlt : V < 2 * x
      · have HF : Hid (idxP (fun x => decide (V < 2 * x)) T 0 = (q : Int)) := by show _ = _; rw [HQ.out, HST.out, decide_eq_true hlt]; rfl
        go_wp2_with fail
        (with_reducible refine KK.out.mono ?_)
        rintro e w3 ⟨rfl, b3⟩
        have hb3 := hB.trans ((hb.trans (b3.mono hb.size)).mono hB.size)
        clear b3 hb KK HQ HST
        go_wp2
        go_ret
        exact ⟨ret_i HF.out.symm, hb3⟩
      · have HN : Hid (idxP (fun x => decide (V < 2 * x)) T 0 = idxP (fun x => decide (V < 2 * x)) T (q + 1)) := by show _ = _; rw [HQ.out, HST.out, decide_eq_false hlt]; rfl
        have hlt2 : 2 * x ≤ V := by omega
        go_wp2_with fail
        (with_reducible refine KK.out.mono ?_)
        rintro e w3 ⟨rfl, b3⟩
        have hb3 := hb.trans (b3.mono hb.size)
        clear b3 hb KK HQ HST
        go_wp2
        go_roundw
        case rel => exact ⟨q + 1, by omega, by go_num, HN, hb3⟩
        case measure => simp [intOf]; omega
    · obtain rfl : q = T.length := by omega
      have HF : Hid (idxP (fun x => decide (V < 2 * x)) T 0 = -1) := by show _ = _; rw [HQ.out, EN.out]
      have hb3 := hB.trans (hb.mono hB.size)
      go_wp2
      go_ret
      exact ⟨ret_i HF.out.symm, hb3⟩
theorem implMissesMajority (rule m : Int) (A : Option Addr) (n c : Nat) (vs : List Vt) (w : World) (h : VotesAt w A n vs) (hp : profOk m vs = true) :
    Calls Tryz.prog 12 #[.int .i64 rule, .agg #[.int .i64 m, .slice A n c]] w fun e w' => e = .returned (.bool (missB (winnerR rule m vs) (majW m vs))) ∧ Below w.heap.size w w' := by
  obtain rfl := h.len
  have hB := alloc_below w (.cells #[.int .i64 m, .slice A vs.length c] 24)
  obtain ⟨x0, x1⟩ := PBox.new w m A vs.length c 24 rfl
  replace h := h.below hB
  generalize hw0 : w.alloc (.cells #[.int .i64 m, .slice A vs.length c] 24) = w0 at *
  obtain ⟨hn, hx⟩ := small_of (pf_of hp)
  have K1 : Hid (∀ L : Later w0, Calls Tryz.prog 7 #[.int .i64 rule, .agg #[.int .i64 m, .slice A vs.length c]] L.W fun e W' => e = .returned (.int .i64 (winnerR rule m vs)) ∧ ∃ L' : Later w0, W' = L'.W) :=
    fun L => L.call (implWinnerBy rule m A vs.length c vs L.W (h.below L.h) hn hx)
  have K2 : Hid (∀ L : Later w0, Calls Tryz.prog 34 #[.agg #[.int .i64 m, .slice A vs.length c]] L.W fun e W' => e = .returned (.int .i64 (majW m vs)) ∧ ∃ L' : Later w0, W' = L'.W) :=
    fun L => L.call (implMajorityAt m A vs.length c vs L.W (h.below L.h) hp)
  have K3 : Hid (∀ (a b : Int) (L : Later w0), Calls Tryz.prog 25 #[.int .i64 a, .int .i64 b] L.W fun e W' => e = .returned (.bool (missB a b)) ∧ ∃ L' : Later w0, W' = L'.W) :=
    fun a b L => L.call_same (misses_any a b L.W)
  have q0 : ∀ L : Later w0, L.W.cell? ⟨w.heap.size, 0, none⟩ = some (.int .i64 m) := fun L => L.cell x0
  have q1 : ∀ L : Later w0, L.W.cell? ⟨w.heap.size, 1, none⟩ = some (.slice A vs.length c) := fun L => L.cell x1
  clear x0 x1 h hx hp
  generalize winnerR rule m vs = a at *
  generalize majW m vs = b at *
  go_enter Tryz.func12, Tryz.ntmps12
  go_upto_region 1 with fail
  clear hw0
  refine wp_region_later (by kernel_rfl) (by kernel_rfl) ?_
  repeat (go_big_quiet_step (first | (with_reducible exact K1.out _) | (with_reducible exact K2.out _) | (with_reducible exact K3.out _ _ _)))
  (refine wpQuiet_nil ?_; rintro wl ⟨L_, hwl_⟩; have hbl := L_.h; rw [← hwl_] at hbl; clear hwl_ L_)
  clear q0 q1 K1 K2 K3
  go_wp2
  go_ret
  exact ⟨rfl, hB.trans (hbl.mono hB.size)⟩
end Go.Proofs.YtaanppihgldeaaaGreatDoor
namespace Go.Proofs.YtaanppihgldeaaaGreatDoor
set_option linter.unusedSimpArgs false
set_option linter.unusedVariables false
set_option linter.unusedVariables false
open Go.RowKit

theorem implRaise_no (B : Option Addr) (d : Nat) (r : List Int) (a m : Int) (w : World) (g : IntsAt w B r.length r) (hd : r.length ≤ d) (hr : rankOk m r = true) (hp : place r a < 1) :
    Calls Tryz.prog 29 #[.slice B r.length d, .int .i64 a] w fun e w' => e = .returned (.tuple #[.slice none 0 0, .bool false]) ∧ w = w' := by
  have f := rankOk_facts hr
  have K1 := Lib.hid (implPlaceOf_any B r.length d r a w g (by omega))
  have K2 := Lib.hid (isRanking_any B r.length d r w g (by omega) hd)
  rw [show (r.length : Int) = m from f.2.2.1, hr] at K2
  generalize place r a = p at *
  go_enter Tryz.func29, Tryz.ntmps29
  go_wp2_with fail
  (with_reducible refine K1.out.mono ?_)
  rintro e w1 ⟨rfl, rfl⟩
  go_wp2_with fail
  (with_reducible refine K2.out.mono ?_)
  rintro e w1 ⟨rfl, rfl⟩
  go_wp2
  go_ret2
  exact ⟨rfl, rfl⟩
set_option maxHeartbeats 1000000 in
theorem implRaise_yes (B : Option Addr) (d : Nat) (r : List Int) (a m : Int) (w : World) (g : IntsAt w B r.length r) (hd : r.length ≤ d) (hr : rankOk m r = true) (hp : 1 ≤ place r a) :
    Calls Tryz.prog 29 #[.slice B r.length d, .int .i64 a] w fun e w' => ∃ A' c', e = .returned (.tuple #[.slice A' (raiseL r a).length c', .bool true]) ∧ OwnI w' w.heap.size w'.heap.size (.slice A' (raiseL r a).length c') (raiseL r a) ∧ Below w.heap.size w w' := by
  have f := rankOk_facts hr
  have K1 := Lib.hid (implPlaceOf_any B r.length d r a w g (by omega))
  have K2 := Lib.hid (isRanking_any B r.length d r w g (by omega) hd)
  rw [show (r.length : Int) = m from f.2.2.1, hr] at K2
  have K3 := Lib.hid (clone_any B r.length d r w g (by omega))
  have hb := (place_bd r a).2
  obtain ⟨q, hq⟩ : ∃ q : Nat, place r a = (q : Int) + 1 := ⟨(place r a - 1).toNat, by omega⟩
  have HR : Hid (raiseL r a = (r.set q (ix r (q + 1))).set (q + 1) (ix r q)) := by
    show _ = _
    unfold raiseL
    rw [hq, show ((q : Int) + 1).toNat = q + 1 by omega, Nat.add_sub_cancel]
  rw [hq] at K1
  have hql : q + 1 < r.length := by omega
  rw [raise_len]
  generalize raiseL r a = R at *
  have i1 : ((q : Int) + 1).toNat = q + 1 := by omega
  have ew : IntKind.i64.wrap ((q : Int) + 1 - 1) = (q : Int) := by rw [IntWalk.i64_in _ (by omega)]; omega
  have ewq : IntKind.i64.wrap (q : Int) = (q : Int) := IntWalk.i64_in _ (by omega)
  have p1 : (0 : Int) ≤ (q : Int) + 1 := by omega
  have l1 : (q : Int) + 1 < (r.length : Int) := by omega
  have l2 : (q : Int) < (r.length : Int) := by omega
  clear f hq hb hr hp
  go_enter Tryz.func29, Tryz.ntmps29
  go_wp2_with fail
  (with_reducible refine K1.out.mono ?_)
  rintro e w1 ⟨rfl, rfl⟩
  go_wp2_with fail
  (with_reducible refine K2.out.mono ?_)
  rintro e w1 ⟨rfl, rfl⟩
  have n1 : ¬ ((q : Int) + 1 < 1) := by omega
  go_wp2_with fail
  (with_reducible refine K3.out.mono ?_)
  rintro e w1 ⟨A1, c1, rfl, o1, b1⟩
  obtain ⟨g1, rfl, g11, g12⟩ := o1.head (by omega)
  have d1 := o1.cellAt (q + 1) hql
  have d2 := o1.cellAt q (by omega)
  have f1 := o1.frozenAt (q + 1)
  have f2 := o1.frozenAt q
  have o1d : OwnI w1.drew w.heap.size w1.heap.size (.slice (some ⟨g1, 0, none⟩) r.length c1) r := o1
  have hst1 := o1d.stored q (ix r (q + 1))
  have hst2 := hst1.1.stored (q + 1) (ix r q)
  rw [← HR.out] at hst2
  have s1 := hst1.2.size
  have s2 := hst2.2.size
  have HO := Lib.hid (hst2.1.mono (Nat.le_refl w.heap.size) (Nat.le_trans s1 s2))
  have HB := Lib.hid ((b1.drew.trans (hst1.2.toBelow g11 b1.size)).trans (hst2.2.toBelow g11 (Nat.le_trans b1.size s1)))
  clear hst1 hst2 o1 o1d b1 K1 K2 K3 g
  generalize ix r (q + 1) = x at *
  generalize ix r q = y at *
  go_upto_region 5 with fail
  go_region
  all_goals
    go_wp2
    go_ret2
    exact ⟨_, _, rfl, HO.out, HB.out⟩
theorem raise_some {m : Int} {vs : List Vt} (F : PF m vs) {k : Nat} (hk : k < vs.length) : rankOk m (vx vs k).r = true ∧ (vx vs k).r.length ≤ 5 := by
  have hr := F.r _ (vx_mem hk)
  have := rankOk_facts hr
  exact ⟨hr, by omega⟩
set_option maxRecDepth 100000 in
set_option maxHeartbeats 2000000 in
theorem implMonoNo (rule m : Int) (A : Option Addr) (n c : Nat) (vs : List Vt) (w : World) (h : VotesAt w A n vs) (hp : profOk m vs = true) (r1 : 1 ≤ rule) (r13 : rule ≤ 13)
    (HM : ∀ k, k < vs.length → 1 ≤ place (vx vs k).r (winnerR rule m vs) → winnerR rule m (setR vs k (raiseL (vx vs k).r (winnerR rule m vs))) = winnerR rule m vs) :
    Calls Tryz.prog 9 #[.int .i64 rule, .agg #[.int .i64 m, .slice A n c]] w fun e w' => e = .returned (.int .i64 (-1)) ∧ Below w.heap.size w w' := by
  obtain rfl := h.len
  have hB := alloc_below w (.cells #[.int .i64 m, .slice A vs.length c] 24)
  obtain ⟨x0, x1⟩ := PBox.new w m A vs.length c 24 rfl
  replace h := h.below hB
  generalize hw0 : w.alloc (.cells #[.int .i64 m, .slice A vs.length c] 24) = w0 at *
  have F := pf_of hp
  obtain ⟨hn, hx⟩ := small_of F
  have K := Lib.hid (implWinnerBy rule m A vs.length c vs w0 h hn hx)
  have wb := winner_bd (rule := rule) hp r1 r13
  have RS := Lib.hid (fun k hk => raise_some F (k := k) hk)
  have RO := Lib.hid (fun k (hk : k < vs.length) h1 => (raise_facts (a := winnerR rule m vs) (F.r _ (vx_mem hk)) h1).ok)
  have KW := Lib.hid (fun B d k r W hW hk g hd hr => implWithRanking m A vs.length c vs k B d r W hW hn hx hp hk g hd hr)
  have KN := Lib.hid (fun A' c' k r W hr hW => implWinnerBy rule m A' vs.length c' (setR vs k r) W hW hn (setR_small (m := m) hx hr))
  have HMM := Lib.hid HM
  generalize winnerR rule m vs = a at *
  clear HM F hx hp
  go_enter Tryz.func9, Tryz.ntmps9
  go_wp2_with fail
  (with_reducible refine K.out.mono ?_)
  rintro e w1 ⟨rfl, b1⟩
  replace x0 := cell_carry b1 x0
  replace x1 := cell_carry b1 x1
  replace h := h.below b1
  replace hB := hB.trans (b1.mono hB.size)
  clear b1 K hw0
  have wb0 : ¬ a < 0 := by omega
  have wb1 : decide (a < 0) = false := decide_eq_false wb0
  go_wp2
  go_loopw [6, 7, 8, 9, 10, 11, 20] (fun _ _ _ _ _ _ i wr => ∃ q : Nat, q ≤ vs.length ∧ i = .int .i64 q ∧ Below w1.heap.size w1 wr) (fun _ _ _ _ _ _ i _ => vs.length - (intOf i).toNat)
  case atStart => exact ⟨0, Nat.zero_le _, rfl, Below.refl _ _⟩
  case round =>
    obtain ⟨q, hq, rfl, hb⟩ := hrel
    by_cases hlq : q < vs.length
    · obtain ⟨b, o, A', c', rfl, _, hc1, hc2, hcc, hin⟩ := (h.below hb).at_ hlq
      obtain ⟨hr, hl5⟩ := RS.out q hlq
      have ROq := Lib.hid (RO.out q hlq)
      have HMq := Lib.hid (HMM.out q hlq)
      have KWq := Lib.hid (fun B d r W hW g hd hr => KW.out B d q r W hW hlq g hd hr)
      generalize vx vs q = v at *
      have b2 := alloc_below wr (.cells #[.slice A' v.r.length c', .int .i64 v.c] 44)
      obtain ⟨y0, y1⟩ := new_pair wr (.slice A' v.r.length c') (.int .i64 v.c) 44 rfl
      have hin2 := hin.below b2
      have hb2 := hb.trans (b2.mono hb.size)
      have x0' := cell_carry hb2 x0
      have x1' := cell_carry hb2 x1
      clear b2 hin hb
      generalize hw2 : wr.alloc (.cells #[.slice A' v.r.length c', .int .i64 v.c] 44) = w2 at *
      have i1 : (q : Int) < (vs.length : Int) := by omega
      by_cases hpl : place v.r a < 1
      · have KR := Lib.hid (implRaise_no A' c' v.r a m w2 hin2 hcc hr hpl)
        clear hpl
        go_wp2_with fail
        (with_reducible refine KR.out.mono ?_)
        rintro e w3 ⟨rfl, rfl⟩
        go_wp2
        go_roundw
        case rel => exact ⟨q + 1, by omega, by go_num, hb2⟩
        case measure => simp [intOf]; omega
      · have hpl1 : 1 ≤ place v.r a := by omega
        have KR := Lib.hid (implRaise_yes A' c' v.r a m w2 hin2 hcc hr hpl1)
        have hro := ROq.out hpl1
        have hwin := HMq.out hpl1
        generalize raiseL v.r a = R at *
        clear hpl hpl1
        go_wp2_with fail
        (with_reducible refine KR.out.mono ?_)
        rintro e w3 ⟨A3, c3, rfl, o3, b3⟩
        have hb3 := hb2.trans (b3.mono hb2.size)
        replace x0' := cell_carry b3 x0'
        replace x1' := cell_carry b3 x1'
        have KK := Lib.hid (KWq.out A3 c3 R w3 (h.below hb3) o3.at_ o3.ints.2.2.1 hro)
        clear b3 KR hw2 hb2
        go_wp2_with fail
        (with_reducible refine KK.out.mono ?_)
        rintro e w4 ⟨A4, c4, rfl, o4, b4⟩
        have b5 := alloc_below w4 (.cells #[.int .i64 m, .slice A4 vs.length c4] 24)
        obtain ⟨z0, z1⟩ := PBox.new w4 m A4 vs.length c4 24 rfl
        have o5 := (o4.alloc (.cells #[.int .i64 m, .slice A4 vs.length c4] 24)).at_
        have hb5 := (hb3.trans (b4.mono hb3.size)).trans (b5.mono (hb3.trans (b4.mono hb3.size)).size)
        have KN2 := Lib.hid (KN.out A4 c4 q R _ hro o5)
        rw [hwin] at KN2
        clear b4 b5 KK o4 o3 hb3 o5
        generalize hw5 : w4.alloc (.cells #[.int .i64 m, .slice A4 vs.length c4] 24) = w5 at *
        go_wp2_with fail
        (with_reducible refine KN2.out.mono ?_)
        rintro e w6 ⟨rfl, b6⟩
        have hb6 := hb5.trans (b6.mono hb5.size)
        clear b6 KN2 hw5 hb5
        go_wp2
        go_roundw
        case rel => exact ⟨q + 1, by omega, by go_num, hb6⟩
        case measure => simp [intOf]; omega
    · obtain rfl : q = vs.length := by omega
      have hb6 := hB.trans (hb.mono hB.size)
      go_wp2
      go_ret
      exact ⟨rfl, hb6⟩
end Go.Proofs.YtaanppihgldeaaaGreatDoor
namespace Go.Proofs.YtaanppihgldeaaaGreatDoor
set_option linter.unusedSimpArgs false
set_option linter.unusedVariables false
set_option linter.unusedVariables false
open Go.RowKit

theorem run_append_made2 {P : Program} (w : World) (t u ty e : TypeId) (i : TypeInfo) (z : Value) (ht : P.underlying t = some (.slice e)) (hu : P.underlying u = some (.int .i64)) (hi : P.info? e = some i) (hz : i.zero = some z) (hzc : z.cells.size = 2) (hs : i.size = 2) (hb : i.bytes = 32)
    (n : Nat) (h0 : 0 < n) (h63 : n ≤ 1048576) :
    (Builtin.append_ #[t, u] ty #[.slice none 0 0, .int .i64 (n : Int)]).run P w =
      .ok (.slice (some ⟨w.heap.size, 0, none⟩) n (grownCap w n 0 e)) (w.drew.alloc (.cells (Builtin.zeroCells z.cells n ++ Builtin.zeroCells z.cells (grownCap w n 0 e - n)) e)) := by
  have hn : n ≠ 0 := by omega
  have hn2 : ¬ n * 2 = 0 := by omega
  have h63' : ¬ (9223372036854775807 < (n : Int)) := by omega
  have h48b : ¬ (281474976710656 < Builtin.nextslicecap n 0 * 32) := by rw [nextslicecap_zero h0]; omega
  have hw : IntKind.i64.wrap (n : Int) = (n : Int) := by rw [IntKind.wrap_i64]; omega
  have h1 : ¬ ((n : Int) < 0) := by omega
  have h2 : ¬ (281474976710656 < (n : Int) * 32) := by omega
  simp [Builtin.append_, run_underlying ht, run_underlying hu, sizeOf, typeInfo, zeroValue, hi, hz, hs, hb, Builtin.lenOf, hn, hn2, h63', h48b, hw, h1, h2, Question.forced, run_firstCells_none, newRow, grownCap, asInt, asIntOf]
/-- the votes' cells are the call's own, the rankings may be anyone's -/
def OwnC (w : World) (lo hi : Nat) (v : Value) (Z : List VE) : Prop := w.ownsRow lo 44 2 v Z.length (flatV Z) ∧ ∀ k, v.ownBlock = some k → k < hi
/-- the rankings of votes, where their cells say -/
def RkAt (w : World) (Z : List VE) : Prop := ∀ p ∈ Z, ∃ A c, p.1 = .slice A p.2.r.length c ∧ p.2.r.length ≤ c ∧ IntsAt w A p.2.r.length p.2.r
section
variable {w w' : World} {A : Option Addr} {n c lo hi : Nat} {v : Value} {Z Y : List VE} {vs : List Vt}
theorem RkAt.below (h : RkAt w Z) (hb : Below w.heap.size w w') : RkAt w' Z := fun p hp => by
  obtain ⟨A, c, e, hc, hi⟩ := h p hp
  exact ⟨A, c, e, hc, hi.below hb⟩
theorem OwnC.nil (w : World) (lo hi : Nat) : OwnC w lo hi (.slice none 0 0) [] := ⟨World.ownsRow_nil _ _ _ _, fun k h => by simp [Value.ownBlock] at h⟩
theorem OwnC.mono {lo' hi' : Nat} (h : OwnC w lo hi v Z) (hl : lo' ≤ lo) (hh : hi ≤ hi') : OwnC w lo' hi' v Z := by
  refine ⟨⟨h.1.1, ?_⟩, fun k hk => by have := h.2 k hk; omega⟩
  rcases h.1.2 with h0 | ⟨g, cap, cur, hv, hgb, r⟩
  · exact .inl h0
  · exact .inr ⟨g, cap, cur, hv, by omega, r⟩
theorem OwnC.keep (h : OwnC w lo hi v Z) (hf : ∀ k, lo ≤ k → k < hi → k < w.heap.size → w'.heap[k]? = w.heap[k]?) : OwnC w' lo hi v Z := by
  refine ⟨⟨h.1.1, ?_⟩, h.2⟩
  rcases h.1.2 with h0 | ⟨g, cap, cur, hv, hgb, hg, r⟩
  · exact .inl h0
  · exact .inr ⟨g, cap, cur, hv, hgb, by rw [hf g hgb (h.2 g (by rw [hv]; rfl)) (Array.getElem?_eq_some_iff.1 hg).1]; exact hg, r⟩
theorem OwnC.belowW (h : OwnC w lo hi v Z) (hb : Below w.heap.size w w') : OwnC w' lo hi v Z := h.keep fun k _ _ hs => hb.block k hs
theorem OwnC.only {l2 h2 : Nat} (h : OwnC w lo hi v Z) (ho : Only l2 h2 w w') (hd : hi ≤ l2 ∨ h2 ≤ lo) : OwnC w' lo hi v Z := h.keep fun k h1 h2 hs => ho.block k hs (by omega)
theorem RkAt.append (h1 : RkAt w Z) (h2 : RkAt w Y) : RkAt w (Z ++ Y) := fun p hp => (List.mem_append.1 hp).elim (h1 p) (h2 p)
theorem OwnC.votes (h : OwnC w lo hi (.slice A n c) Z) (hr : RkAt w Z) : Z.length = n ∧ VotesAt w A n (Z.map Prod.snd) := by
  have hn : Z.length = n := by rcases h.1.2 with ⟨e, h0⟩ | ⟨g, cap, cur, e, _⟩ <;> cases e <;> omega
  subst hn
  refine ⟨rfl, by rw [List.length_map], fun hp => ?_⟩
  rcases h.1.2 with ⟨e, h0⟩ | ⟨g, cap, cur, e, _, hg, _⟩
  · omega
  · cases e
    refine ⟨g, 0, rfl, fun j hj => ?_⟩
    obtain ⟨a1, a2⟩ := flatV_at hj
    have c1 := World.ownsRow.cellAt h.1 (j * 2) (by omega)
    have c2 := World.ownsRow.cellAt h.1 (j * 2 + 1) (by omega)
    rw [a1] at c1
    rw [a2] at c2
    obtain ⟨A', c', e, hcc, hi⟩ := hr _ (List.getElem_mem hj)
    have ev : vx (Z.map Prod.snd) j = Z[j].2 := by rw [vx_lt (by simpa using hj)]; simp
    rw [ev]
    rw [e] at c1
    exact ⟨A', _, c', by rw [Nat.zero_add]; exact c1, by rw [Nat.zero_add]; exact c2, hcc, hi⟩
/-- votes in memory, cell by cell -/
def CellsAt (w : World) (A : Option Addr) (Z : List VE) : Prop := 0 < Z.length → ∃ b o, A = some ⟨b, o, none⟩ ∧ ∀ j u, (flatV Z)[j]? = some u → w.cell? ⟨b, o + j, none⟩ = some u
theorem CellsAt.below (h : CellsAt w A Z) (hb : Below w.heap.size w w') : CellsAt w' A Z := fun hn => by
  obtain ⟨b, o, e, hc⟩ := h hn
  refine ⟨b, o, e, fun j u hj => ?_⟩
  have := hc j u hj
  exact (hb.cell (p := ⟨b, o + j, none⟩) (cell_lt this)).trans this
theorem VotesAt.cells (h : VotesAt w A n vs) : ∃ Z : List VE, Z.map Prod.snd = vs ∧ RkAt w Z ∧ CellsAt w A Z := by
  obtain rfl := h.len
  by_cases h0 : vs.length = 0
  · have : vs = [] := List.eq_nil_of_length_eq_zero h0
    subst this
    exact ⟨[], rfl, fun p hp => by simp at hp, fun hp => absurd hp (by simp)⟩
  · obtain ⟨b, o, rfl, hc⟩ := h.2 (by omega)
    haveI : Inhabited Value := ⟨undef⟩
    obtain ⟨f, hf⟩ := Go.Deep.choose_lt (n := vs.length) (p := fun j (u : Value) => w.cell? ⟨b, o + j * 2, none⟩ = some u ∧ w.cell? ⟨b, o + j * 2 + 1, none⟩ = some (.int .i64 (vx vs j).c) ∧ ∃ A' c', u = .slice A' (vx vs j).r.length c' ∧ (vx vs j).r.length ≤ c' ∧ IntsAt w A' (vx vs j).r.length (vx vs j).r) fun j hj => by
      obtain ⟨A', n', c', h1, h2, h3, h4⟩ := hc j hj
      obtain rfl := h4.1
      exact ⟨_, h1, h2, A', c', rfl, h3, h4⟩
    have hl : ((List.range vs.length).map fun j => ((f j, vx vs j) : VE)).length = vs.length := by simp
    have hg : ∀ j (hj : j < vs.length), ((List.range vs.length).map fun j => ((f j, vx vs j) : VE))[j]'(by rw [hl]; exact hj) = (f j, vx vs j) := fun j hj => by simp
    refine ⟨(List.range vs.length).map fun j => (f j, vx vs j), ?_, fun p hp => ?_, fun _ => ⟨b, o, rfl, fun j u hu => ?_⟩⟩
    · apply List.ext_getElem
      · simp
      · intro i h1 h2
        rw [List.getElem_map, hg i (by simpa using h2), ← vx_lt h2]
    · obtain ⟨j, hj, rfl⟩ := List.mem_map.1 hp
      obtain ⟨_, _, A', c', e, h3, h4⟩ := hf j (by simpa using hj)
      exact ⟨A', c', e, h3, h4⟩
    · have hjl : j < vs.length * 2 := by have := (List.getElem?_eq_some_iff.1 hu).1; rw [flatV_len, hl] at this; exact this
      have hd : j / 2 < vs.length := by omega
      have hfl := flatV_at (Z := (List.range vs.length).map fun j => ((f j, vx vs j) : VE)) (j := j / 2) (by rw [hl]; exact hd)
      rw [hg _ hd] at hfl
      rcases Nat.mod_two_eq_zero_or_one j with e | e
      · have ej : j = j / 2 * 2 := by omega
        rw [ej, hfl.1] at hu
        rw [ej, ← Option.some.inj hu]
        exact (hf (j / 2) hd).1
      · have ej : j = j / 2 * 2 + 1 := by omega
        rw [ej, hfl.2] at hu
        rw [ej, ← Option.some.inj hu, ← Nat.add_assoc]
        exact (hf (j / 2) hd).2.1
end
theorem flatV_one {w : World} {Z : List VE} (h : RkAt w Z) : ∀ u ∈ flatV Z, u.oneCell' = true := fun u hu => by
  unfold flatV at hu
  obtain ⟨p, hp, hu⟩ := List.mem_flatMap.1 hu
  obtain ⟨A, c, e, _⟩ := h p hp
  simp only [List.mem_cons, List.not_mem_nil, or_false] at hu
  rcases hu with rfl | rfl
  · rw [e]; rfl
  · rfl
section
variable {ops : Array Oper} {rest : List Oper} {o : Oper} {a : Act} {Q : Exit → Act → World → Prop}
/-- 'append([]Vote(nil)[:0], make([]Vote, n)...)' -/
theorem wpList_append_madeV (w : World) (hg : o.guard = none) (s x : Operand) (hop : o.op = Op.call { callee := Callee.builtin Builtin.append, args := #[s, x], argTypes := #[22, 3] })
    (n : Nat) (hs : a.eval s = .slice none 0 0) (hx : a.eval x = .int .i64 (n : Int)) (h0 : 0 < n) (hn : n ≤ 1048576)
    (hK : ∀ cap w', n ≤ cap → OwnC w' w.heap.size (w.heap.size + 1) (.slice (some ⟨w.heap.size, 0, none⟩) 0 cap) [] → Below w.heap.size w w' → w'.heap.size = w.heap.size + 1 → wpList Tryz.prog ops Q rest (a.put o.dst (.slice (some ⟨w.heap.size, 0, none⟩) n cap)) w') :
    wpList Tryz.prog ops Q (o :: rest) a w := by
  obtain ⟨i0, hi, hz0, hz1, hz2⟩ := info_parts infoV
  refine wpList_plain hg fun K hK' => ?_
  have hrun := run_append_made2 (P := Tryz.prog) w 22 3 o.type 44 i0 (.agg #[.slice none 0 0, .int .i64 0]) Tryz.underlying22 Tryz.underlying3 hi hz0 rfl hz1 hz2 n h0 hn
  have hge := grownCap_ge w n 0 44
  have hcm : grownCap w n 0 44 ≤ maxLen := grownCap_le_maxLen w n 0 44 (by unfold maxLen; omega)
  unfold Oper.wp
  simp [execOp, hop, resolve, invoke, builtin, hs, hx, hrun, Result.andThen]
  refine hK' _ _ (hK _ _ hge ⟨⟨by simp [flatV], .inr ⟨w.heap.size, grownCap w n 0 44, _, rfl, Nat.le_refl _, heap_alloc_new w.drew _, Nat.zero_le _, hcm, ?_, by simp [flatV]⟩⟩, fun k e => by simp [Value.ownBlock] at e; omega⟩ (((Below.refl _ _).drew).alloc (Nat.le_refl _) _) (by simp))
  simp only [Array.size_append, size_zeroCells]
  simp [Value.cells]
  omega
/-- 'append(out, votes...)': the cells are copied -/
theorem wpList_append_cells (w : World) (hg : o.guard = none) (s x : Operand) (hop : o.op = Op.call { callee := Callee.builtin Builtin.append, args := #[s, x], argTypes := #[22, 22] })
    (lo hi n c : Nat) (A : Option Addr) (Z : List VE) (hs : a.eval s = .slice A n c) (hown : OwnC w lo hi (.slice A n c) Z) (hnZ : Z.length = n)
    (B : Option Addr) (m cc : Nat) (Y : List VE) (hx : a.eval x = .slice B m cc) (hm : Y.length = m) (hy : CellsAt w B Y) (h1 : RkAt w Y) (hn : n + m ≤ 1048576) (hbase : lo ≤ w.heap.size) (hhi : hi ≤ w.heap.size)
    (hK : ∀ A' c' w', OwnC w' lo w'.heap.size (.slice A' (n + m) c') (Z ++ Y) → Only lo hi w w' → wpList Tryz.prog ops Q rest (a.put o.dst (.slice A' (n + m) c')) w') :
    wpList Tryz.prog ops Q (o :: rest) a w := by
  obtain ⟨i0, hi0, hz0, hz1, hz2⟩ := info_parts infoV
  subst hnZ
  subst hm
  have fin : ∀ v' w', w'.ownsRow lo 44 2 v' (Z.length + Y.length) (flatV Z ++ flatV Y) → ∃ A' c', v' = .slice A' (Z.length + Y.length) c' ∧ OwnC w' lo w'.heap.size v' (Z ++ Y) := fun v' w' ho => by
    have h2 : OwnC w' lo w'.heap.size v' (Z ++ Y) := ⟨by rw [List.length_append, flatV_append]; exact ho, fun k e => (World.ownsRow.lt ho k e).2⟩
    rcases ho.2 with ⟨rfl, h0⟩ | ⟨g, cap, cur, rfl, _⟩
    · exact ⟨none, 0, by rw [h0], h2⟩
    · exact ⟨_, _, rfl, h2⟩
  cases B with
  | none =>
    have hy0 : Y = [] := by
      rcases Nat.eq_zero_or_pos Y.length with h0 | h0
      · exact List.eq_nil_of_length_eq_zero h0
      · obtain ⟨b, o', e, _⟩ := hy h0
        cases e
    subst hy0
    refine wpList_plain hg fun K hK' => ?_
    have hrun := run_append_of_nil (P := Tryz.prog) w lo 22 o.type 44 i0 2 Tryz.underlying22 hi0 _ Z.length _ hown.1 cc
    unfold Oper.wp
    simp [execOp, hop, resolve, invoke, builtin, hs, hx, hrun, Result.andThen]
    refine hK' _ _ ?_
    have h2 := hK A c w (by simpa using hown.mono (Nat.le_refl _) hhi) (Only.refl _ _ _)
    simpa using h2
  | some ad =>
    refine wpList_append_own_at w hg s x 22 hop lo 44 i0 (.agg #[.slice none 0 0, .int .i64 0]) 2 32 Tryz.underlying22 hi0 hz0 hz1 hz2 rfl (by decide) _ Z.length _ hs hown.1 ad Y.length cc (flatV Y) hx (by rw [flatV_len]) ?_ (flatV_one h1) (by unfold maxLen; omega) (by omega) hbase ?_
    · intro j u hj
      have hjl : j < Y.length * 2 := by
        have := (List.getElem?_eq_some_iff.1 hj).1
        rwa [flatV_len] at this
      obtain ⟨b, o', e, hc⟩ := hy (by omega)
      cases e
      rw [Addr.add_lit]
      exact hc j u hj
    · intro v' w' hown' hgrow _ hat
      obtain ⟨A', c', e, h2⟩ := fin v' w' hown'
      subst e
      exact hK A' c' w' h2 (Only.of_grown hgrow (fun k e => ⟨(World.ownsRow.lt hown.1 k e).1, hown.2 k e⟩))
end
end Go.Proofs.YtaanppihgldeaaaGreatDoor
namespace Go.Proofs.YtaanppihgldeaaaGreatDoor
set_option linter.unusedSimpArgs false
set_option linter.unusedVariables false
set_option linter.unusedVariables false
open Go.RowKit

set_option maxHeartbeats 800000 in
theorem growV_nil (n : Nat) (w : World) (hn : n ≤ 1048576) :
    Calls Tryz.prog 76 #[.slice none 0 0, .int .i64 (n : Int)] w fun e w' => ∃ A c, e = .returned (.slice A 0 c) ∧ OwnC w' w.heap.size w'.heap.size (.slice A 0 c) [] ∧ Below w.heap.size w w' := by
  have h1 : ¬ ((n : Int) < 0) := by omega
  by_cases h0 : n = 0
  · subst h0
    go_enter Tryz.func76, Tryz.ntmps76
    go_wp2
    go_ret
    exact ⟨none, 0, rfl, OwnC.nil _ _ _, Below.refl _ _⟩
  · have hp : 0 < n := by omega
    have hpi : (0 : Int) < (n : Int) := by omega
    clear h0
    go_enter Tryz.func76, Tryz.ntmps76
    go_wp2_with (at_builtin; refine wpList_append_madeV _ rfl _ _ rfl n rfl rfl hp hn ?_)
    intro cap w2 hc ho hb hs
    have z := hb.size
    have HS := Lib.hid hs
    clear hs
    go_wp2
    go_ret
    exact ⟨_, _, rfl, ho.mono (Nat.le_refl _) (Nat.le_of_eq HS.out.symm), hb⟩
/-- the list of k slices of cells so far -/
def gz2 (Z1 Z2 : List VE) : Nat → List VE
  | 0 => Z1
  | _ => Z2
def fz2 (Z1 Z2 : List VE) : Nat → List VE
  | 0 => []
  | 1 => Z1
  | _ => Z1 ++ Z2
theorem fz2_step (Z1 Z2 : List VE) {k : Nat} (hk : k < 2) : fz2 Z1 Z2 (k + 1) = fz2 Z1 Z2 k ++ gz2 Z1 Z2 k := by
  match k, hk with
  | 0, _ => rfl
  | 1, _ => rfl
theorem fz2_le (Z1 Z2 : List VE) (k : Nat) : (fz2 Z1 Z2 k).length ≤ Z1.length + Z2.length := by
  match k with
  | 0 => simp [fz2]
  | 1 => simp [fz2]
  | k + 2 => simp [fz2]
set_option maxHeartbeats 1600000 in
theorem concatV_any (b o cc : Nat) (A1 A2 : Option Addr) (c1 c2 : Nat) (Z1 Z2 : List VE) (w : World) (d1 : w.cell? ⟨b, o, none⟩ = some (.slice A1 Z1.length c1)) (d2 : w.cell? ⟨b, o + 1, none⟩ = some (.slice A2 Z2.length c2))
    (h1 : CellsAt w A1 Z1) (h2 : CellsAt w A2 Z2) (r1 : RkAt w Z1) (r2 : RkAt w Z2) (hl1 : Z1.length ≤ 100) (hl2 : Z2.length ≤ 100) :
    Calls Tryz.prog 31 #[.slice (some ⟨b, o, none⟩) 2 cc] w fun e w' => ∃ A' c', e = .returned (.slice A' (Z1 ++ Z2).length c') ∧ OwnC w' w.heap.size w'.heap.size (.slice A' (Z1 ++ Z2).length c') (Z1 ++ Z2) ∧ Below w.heap.size w w' := by
  have hcell : Hid (∀ k, k < 2 → ∃ A' c', w.cell? ⟨b, o + k, none⟩ = some (.slice A' (gz2 Z1 Z2 k).length c') ∧ CellsAt w A' (gz2 Z1 Z2 k) ∧ RkAt w (gz2 Z1 Z2 k) ∧ (gz2 Z1 Z2 k).length ≤ 100) := fun k hk => by
    match k, hk with
    | 0, _ => exact ⟨A1, c1, d1, h1, r1, hl1⟩
    | 1, _ => exact ⟨A2, c2, d2, h2, r2, hl2⟩
  have HT := Lib.hid (fun k (hk : k < 2) => fz2_step Z1 Z2 hk)
  have HF : Hid (∀ k, k < 2 → (fz2 Z1 Z2 (k + 1)).length = (fz2 Z1 Z2 k).length + (gz2 Z1 Z2 k).length) := fun k hk => by rw [fz2_step Z1 Z2 hk, List.length_append]
  have HL : Hid (∀ k, (fz2 Z1 Z2 k).length ≤ 200) := fun k => by have := fz2_le Z1 Z2 k; omega
  have HE : Hid (fz2 Z1 Z2 2 = Z1 ++ Z2) := rfl
  have HZ : Hid (fz2 Z1 Z2 0 = []) := rfl
  have HZL : Hid ((fz2 Z1 Z2 0).length = 0) := rfl
  have hlb := cell_lt d1
  generalize fz2 Z1 Z2 = T at *
  generalize gz2 Z1 Z2 = G at *
  generalize Z1 ++ Z2 = Z at *
  clear d1 d2 h1 h2 r1 r2 hl1 hl2
  go_enter Tryz.func31, Tryz.ntmps31
  go_wp2
  go_loop [3, 5, 11] (fun v _ i => ∃ k : Nat, k ≤ 2 ∧ i = .int .i64 k ∧ v = .int .i64 ((T k).length : Int)) (fun _ _ i => 2 - (intOf i).toNat)
  case atStart => exact ⟨0, Nat.zero_le _, rfl, by rw [HZL.out]; rfl⟩
  case round =>
    obtain ⟨k, hk, rfl, rfl⟩ := hrel
    have hl := HL.out k
    by_cases hlt : k < 2
    · obtain ⟨A', c', hck, _, _, hg⟩ := hcell.out k hlt
      have hs := HF.out k hlt
      have hl2 := HL.out (k + 1)
      have HS := Lib.hid hs
      have i1 : (k : Int) < 2 := by omega
      have nn : ¬ (((T k).length : Int) + ((G k).length : Int) < 0) := by omega
      clear hs hl2
      go_wp2
      go_round
      case rel => exact ⟨k + 1, by omega, by go_num, by rw [HS.out]; go_num⟩
      case measure => simp [intOf]; omega
    · obtain rfl : k = 2 := by omega
      rw [HE.out] at hl ⊢
      have i1 : ¬ ((2 : Nat) : Int) < 2 := by omega
      go_wp2_with fail
      (with_reducible refine (growV_nil _ _ (by omega)).mono ?_)
      rintro e w1 ⟨A1, c1, rfl, o1, b1⟩
      clear i1
      go_wp2
      go_loopw [6, 8, 27] (fun v _ i wr => ∃ (k : Nat) (A' : Option Addr) (c' : Nat), k ≤ 2 ∧ i = .int .i64 k ∧ v = .slice A' (T k).length c' ∧ OwnC wr w.heap.size wr.heap.size (.slice A' (T k).length c') (T k) ∧ Below w.heap.size w wr) (fun _ _ i _ => 2 - (intOf i).toNat)
      case atStart => exact ⟨0, _, _, Nat.zero_le _, rfl, by rw [HZL.out], by rw [HZ.out]; exact o1, b1⟩
      case round =>
        obtain ⟨k, A2, c2, hk2, rfl, rfl, hown, hb⟩ := hrel
        have zr := hb.size
        have hl3 := HL.out k
        by_cases hlt2 : k < 2
        · obtain ⟨A', c', hck, hca, hra, hg⟩ := hcell.out k hlt2
          have hs := HF.out k hlt2
          have HS := Lib.hid hs
          have hck2 := cell_carry hb hck
          have hca2 := hca.below hb
          have hra2 := hra.below hb
          have i1 : (k : Int) < 2 := by omega
          clear hs hck hca hra
          go_wp2_with (at_builtin; refine wpList_append_cells _ rfl _ _ rfl w.heap.size wr.heap.size _ _ _ (T k) rfl hown rfl A' _ c' (G k) rfl rfl hca2 hra2 (by omega) zr (Nat.le_refl _) ?_)
          intro A3 c3 w3 o3 hon
          rw [← HT.out k hlt2, ← HS.out] at o3
          have hb3 := hb.trans (hon.toBelow (Nat.le_refl _) zr)
          clear hon hown hb hck2 hca2 hra2
          go_wp2
          go_roundw
          case rel => exact ⟨k + 1, _, _, by omega, by go_num, by rw [HS.out], o3, hb3⟩
          case measure => simp [intOf]; omega
        · obtain rfl : k = 2 := by omega
          rw [HE.out] at hown ⊢
          have i1 : ¬ ((2 : Nat) : Int) < 2 := by omega
          go_wp2
          go_ret
          exact ⟨_, _, rfl, hown, hb⟩
end Go.Proofs.YtaanppihgldeaaaGreatDoor
