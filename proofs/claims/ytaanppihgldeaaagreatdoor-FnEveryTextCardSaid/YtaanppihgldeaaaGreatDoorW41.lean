/- The law's walk. -/
import Derived.Test.YtaanppihgldeaaaGreatDoorW39
import Derived.Test.YtaanppihgldeaaaGreatDoorW40
import Derived.Test.YtaanppihgldeaaaGreatDoorW32
import Derived.Test.YtaanppihgldeaaaGreatDoorW33
import Derived.Test.YtaanppihgldeaaaGreatDoorW30
namespace Go.Proofs.YtaanppihgldeaaaGreatDoor
set_option linter.unusedSimpArgs false
set_option linter.unusedVariables false
set_option linter.unusedVariables false
open Go.RowKit

theorem miss_no {a b : Int} (h : 0 ≤ b → a = b) : missB a b = false := by
  unfold missB
  by_cases hb : 0 ≤ b
  · rw [h hb]; simp
  · simp [hb]
theorem lawC {m : Int} {vs : List Vt} (hp : profOk m vs = true) : ∀ k, k < 6 → missB (winnerR (ix [4, 5, 9, 11, 12, 13] k) m vs) (condW m vs) = false := by
  intro k hk
  refine miss_no fun h => ?_
  have C := condW_is hp h
  match k, hk with
  | 0, _ => exact cond_cop hp C
  | 1, _ => exact cond_max hp C
  | 2, _ => exact cond_bald hp C
  | 3, _ => exact cond_schulze hp C
  | 4, _ => exact cond_pairs hp C
  | 5, _ => exact cond_kem hp C
theorem lawM {m : Int} {vs : List Vt} (hp : profOk m vs = true) : ∀ k, k < 6 → missB (winnerR (ix [1, 6, 7, 10, 4, 13] k) m vs) (majW m vs) = false := by
  intro k hk
  refine miss_no fun h => ?_
  have M := majW_is hp h
  have C := M.cond (pf_of hp)
  match k, hk with
  | 0, _ => exact maj_plur hp M
  | 1, _ => exact maj_runoff hp M
  | 2, _ => exact maj_inst hp M
  | 3, _ => exact maj_buck hp M
  | 4, _ => exact cond_cop hp C
  | 5, _ => exact cond_kem hp C
theorem lawS {m : Int} {vs : List Vt} (hp : profOk m vs = true) : ∀ k, k < 3 → ∃ (rule : Int) (ws : List Int), ix [1, 2, 3] k = rule ∧ 1 ≤ rule ∧ rule ≤ 3 ∧ ScR rule m ws := by
  intro k hk
  have P := prof_ok hp
  match k, hk with
  | 0, _ => exact ⟨1, _, rfl, by omega, by omega, scR1 P.1 P.2.1⟩
  | 1, _ => exact ⟨2, _, rfl, by omega, by omega, scR2 P.1 P.2.1⟩
  | 2, _ => exact ⟨3, _, rfl, by omega, by omega, scR3 P.1 P.2.1⟩
theorem lit_cell (w : World) (xs : List Int) (T : TypeId) (k : Nat) (hk : k < xs.length) : (w.alloc (.cells (xs.map (Value.int .i64)).toArray T)).cell? ⟨w.heap.size, k, none⟩ = some (.int .i64 (ix xs k)) := by
  rw [cell_of_row _ _ k _ T (0, 0) (heap_alloc_new w _)]
  simp [ix_lt hk, hk]
set_option maxRecDepth 100000 in
set_option maxHeartbeats 8000000 in
theorem law_FnEveryText (a : ByteArray) (k : Int) (w : World) (G : Glob w) :
    Calls Tryz.prog 3 #[.string a, .int .i64 k] w fun e w' => e = .returned (.bool true) ∧ Below w.heap.size w w' := by
  by_cases ha : a.size ≤ 1048576
  case neg =>
    have t1 : decide ((1048576 : Int) < (a.size : Int)) = true := decide_eq_true (by omega)
    go_enter Tryz.func3, Tryz.ntmps3
    go_wp2
    go_ret
    exact ⟨rfl, Below.refl _ _⟩
  case pos =>
  have t1 : decide ((1048576 : Int) < (a.size : Int)) = false := decide_eq_false (by omega)
  go_enter Tryz.func3, Tryz.ntmps3
  go_wp2_with fail
  (with_reducible refine (implParseProfile a w ha G).mono ?_)
  rintro e w1 ⟨s1, A1, n1, c1, b1, rfl, hi1, hb1⟩
  have HI1 := Lib.hid hi1
  clear hi1
  have G2 := G.below (hb1.trans ((alloc_below w1 (.cells #[.int .i64 s1, .slice A1 n1 c1] 24)).mono hb1.size))
  have hb2 := hb1.trans ((alloc_below w1 (.cells #[.int .i64 s1, .slice A1 n1 c1] 24)).mono hb1.size)
  clear G hb1
  go_wp2_with fail
  generalize w1.alloc (.cells #[.int .i64 s1, .slice A1 n1 c1] 24) = w2 at *
  (with_reducible refine (specParseProfile a w2 ha).mono ?_)
  rintro e w3 ⟨sz, A, n, c, us, b, rfl, hi, hv, hcc, hok, hb3⟩
  have hbb : b1 = b := by
    rw [Bool.eq_iff_iff]; exact HI1.out.trans hi.symm
  subst hbb
  obtain ⟨x0, x1⟩ := PBox.new w3 sz A n c 24 rfl
  have b4 := alloc_below w3 (.cells #[.int .i64 sz, .slice A n c] 24)
  have hb4 := (hb2.trans (hb3.mono hb2.size)).trans (b4.mono (hb2.trans (hb3.mono hb2.size)).size)
  have hv4 := hv.below b4
  clear HI1 hi hb2 hb3 b4 G2 hv
  cases b1
  · clear hok
    go_wp2
    go_ret
    exact ⟨rfl, hb4⟩
  have hp := hok rfl
  clear hok
  obtain ⟨hnc, hcm⟩ := hcc
  have hun := hv4.len
  have P := prof_ok hp
  have hn : n ≤ 1048576 := by omega
  have hx : ∀ v ∈ us, v.r.length ≤ 1048576 := fun v hv => by have := rank_len5 (vote_ok (P.2.2.2 v hv)).1; omega
  have HP := Lib.hid hp
  have HX := Lib.hid hx
  clear hp hx P hun
  have s4 : (w3.alloc (.cells #[.int .i64 sz, .slice A n c] 24)).heap.size = w3.heap.size + 1 := by simp
  go_wp2_with fail
  generalize w3.alloc (.cells #[.int .i64 sz, .slice A n c] 24) = w4 at *
  have bL5 := alloc_below w4 (.cells #[.int .i64 4, .int .i64 5, .int .i64 9, .int .i64 11, .int .i64 12, .int .i64 13] 3)
  have cL5 : Hid (∀ q, q < 6 → (w4.alloc (.cells #[.int .i64 4, .int .i64 5, .int .i64 9, .int .i64 11, .int .i64 12, .int .i64 13] 3)).cell? ⟨w4.heap.size, q, none⟩ = some (.int .i64 (ix [4, 5, 9, 11, 12, 13] q))) := fun q hq => lit_cell w4 [4, 5, 9, 11, 12, 13] 3 q hq
  have hv5 := hv4.below bL5
  have x0 := cell_carry bL5 x0
  have x1 := cell_carry bL5 x1
  have hbb5 := hb4.trans (bL5.mono hb4.size)
  clear bL5
  obtain ⟨g5, hg5⟩ : ∃ g, w4.heap.size = g := ⟨_, rfl⟩
  rw [hg5] at cL5
  rw [show w3.heap.size + 1 = g5 from by omega]
  generalize w4.alloc (.cells #[.int .i64 4, .int .i64 5, .int .i64 9, .int .i64 11, .int .i64 12, .int .i64 13] 3) = w5 at *
  clear hg5 s4
  go_loopw [10, 40] (fun _ i_ wr => ∃ q : Nat, q ≤ 6 ∧ i_ = .int .i64 q ∧ Below w5.heap.size w5 wr) (fun _ i_ _ => 6 - (intOf i_).toNat)
  case atStart => exact ⟨0, Nat.zero_le _, rfl, Below.refl _ _⟩
  case round =>
    obtain ⟨q, hq, rfl, hbr⟩ := hrel
    by_cases hlt : q < 6
    · have ck := cell_carry hbr (cL5.out q hlt)
      have hvr := hv5.below hbr
      have y0 := cell_carry hbr x0
      have y1 := cell_carry hbr x1
      have HQ := lawC HP.out q hlt
      obtain ⟨r, hr⟩ : ∃ r, ix [4, 5, 9, 11, 12, 13] q = r := ⟨_, rfl⟩
      rw [hr] at ck HQ
      clear hr
      have KC : ∀ W, VotesAt W A n us → Calls Tryz.prog 6 #[.int .i64 r, .agg #[.int .i64 sz, .slice A n c]] W fun e w' => e = .returned (.bool false) ∧ Below W.heap.size W w' := fun W h => by have := implMissesCondorcet r sz A n c us W h hn HX.out; rw [HQ] at this; exact this
      have KI : ∀ W, VotesAt W A n us → Calls Tryz.prog 7 #[.int .i64 r, .agg #[.int .i64 sz, .slice A n c]] W fun e w' => e = .returned (.int .i64 (winnerR r sz us)) ∧ Below W.heap.size W w' := fun W h => implWinnerBy r sz A n c us W h hn HX.out
      have KS : ∀ W, VotesAt W A n us → Calls Tryz.prog 8 #[.int .i64 r, .agg #[.int .i64 sz, .slice A n c]] W fun e w' => e = .returned (.int .i64 (winnerR r sz us)) ∧ Below W.heap.size W w' := fun W h => specWinnerBy r sz A n c us W h hn HX.out
      clear HQ
      generalize winnerR r sz us = a1 at *
      have K1 : Hid (∀ L : Later wr, Calls Tryz.prog 6 #[.int .i64 r, .agg #[.int .i64 sz, .slice A n c]] L.W fun e W' => e = .returned (.bool false) ∧ ∃ L' : Later wr, W' = L'.W) :=
        fun L => L.call (KC L.W (hvr.below L.h))
      have K2 : Hid (∀ L : Later wr, Calls Tryz.prog 7 #[.int .i64 r, .agg #[.int .i64 sz, .slice A n c]] L.W fun e W' => e = .returned (.int .i64 a1) ∧ ∃ L' : Later wr, W' = L'.W) :=
        fun L => L.call (KI L.W (hvr.below L.h))
      have K3 : Hid (∀ L : Later wr, Calls Tryz.prog 8 #[.int .i64 r, .agg #[.int .i64 sz, .slice A n c]] L.W fun e W' => e = .returned (.int .i64 a1) ∧ ∃ L' : Later wr, W' = L'.W) :=
        fun L => L.call (KS L.W (hvr.below L.h))
      have z0 : ∀ L : Later wr, L.W.cell? ⟨w3.heap.size, 0, none⟩ = some (.int .i64 sz) := fun L => L.cell y0
      have z1 : ∀ L : Later wr, L.W.cell? ⟨w3.heap.size, 1, none⟩ = some (.slice A n c) := fun L => L.cell y1
      clear y0 y1 hvr KC KI KS
      go_upto_region 10 with fail
      clear ck
      refine wp_region_later (by kernel_rfl) (by kernel_rfl) ?_
      repeat (go_big_quiet_step (first | (with_reducible exact K1.out _) | (with_reducible exact K2.out _) | (with_reducible exact K3.out _)))
      (refine wpQuiet_nil ?_; rintro wl ⟨L_, hwl_⟩; have hbl := L_.h; rw [← hwl_] at hbl; clear hwl_ L_)
      clear z0 z1 K1 K2 K3
      have hbr2 := hbr.trans (hbl.mono hbr.size)
      clear hbr hbl
      go_wp2
      go_roundw
      case rel => exact ⟨q + 1, by omega, by go_num, hbr2⟩
      case measure => simp [intOf]; omega
    · obtain rfl : q = 6 := by omega
      rw [show ((6 : Nat) : Int) = (6 : Int) from rfl]
      have hb5 := hbb5.trans (hbr.mono hbb5.size)
      replace x0 := cell_carry hbr x0
      replace x1 := cell_carry hbr x1
      have hv5 := hv5.below hbr
      clear hbr cL5 hbb5
      have bL6 := alloc_below wr (.cells #[.int .i64 1, .int .i64 2, .int .i64 3] 3)
      have cL6 : Hid (∀ q, q < 3 → (wr.alloc (.cells #[.int .i64 1, .int .i64 2, .int .i64 3] 3)).cell? ⟨wr.heap.size, q, none⟩ = some (.int .i64 (ix [1, 2, 3] q))) := fun q hq => lit_cell wr [1, 2, 3] 3 q hq
      have hv6 := hv5.below bL6
      have x0 := cell_carry bL6 x0
      have x1 := cell_carry bL6 x1
      have hbb6 := hb5.trans (bL6.mono hb5.size)
      clear bL6
      go_wp2_with fail
      obtain ⟨g6, hg6⟩ : ∃ g, wr.heap.size = g := ⟨_, rfl⟩
      rw [hg6] at cL6 ⊢
      generalize wr.alloc (.cells #[.int .i64 1, .int .i64 2, .int .i64 3] 3) = w6 at *
      clear hg6
      go_loopw [12, 61] (fun _ i_ wr => ∃ q : Nat, q ≤ 3 ∧ i_ = .int .i64 q ∧ Below w6.heap.size w6 wr) (fun _ i_ _ => 3 - (intOf i_).toNat)
      case atStart => exact ⟨0, Nat.zero_le _, rfl, Below.refl _ _⟩
      case round =>
        obtain ⟨q, hq, rfl, hbr⟩ := hrel
        by_cases hlt : q < 3
        · have ck := cell_carry hbr (cL6.out q hlt)
          have hvr := hv6.below hbr
          have y0 := cell_carry hbr x0
          have y1 := cell_carry hbr x1
          obtain ⟨r, ws, hr, r1, r3, S⟩ := lawS HP.out q hlt
          rw [hr] at ck
          clear hr
          have KM : ∀ W, VotesAt W A n us → Calls Tryz.prog 9 #[.int .i64 r, .agg #[.int .i64 sz, .slice A n c]] W fun e w' => e = .returned (.int .i64 (-1)) ∧ Below W.heap.size W w' := fun W h => implMonoNo r sz A n c us W h HP.out r1 (by omega) (fun q hq h1 => mono_score S HP.out hq h1)
          have KA : ∀ W, VotesAt W A n us → Calls Tryz.prog 10 #[.int .i64 r, .agg #[.int .i64 sz, .slice A n c]] W fun e w' => e = .returned (.int .i64 (-1)) ∧ Below W.heap.size W w' := fun W h => implAbstainNo r sz A n c us W h hnc hcm HP.out r1 (by omega) (fun q hq => abstain_score S HP.out hq)
          have KP : ∀ W, VotesAt W A n us → Calls Tryz.prog 11 #[.int .i64 r, .agg #[.int .i64 sz, .slice A n c], .int .i64 k] W fun e w' => e = .returned (.bool false) ∧ Below W.heap.size W w' := fun W h => implSplitNo r sz A n c us k W h hnc hcm HP.out r1 (by omega) (fun q hq => split_score S HP.out hq)
          have KI : ∀ W, VotesAt W A n us → Calls Tryz.prog 7 #[.int .i64 r, .agg #[.int .i64 sz, .slice A n c]] W fun e w' => e = .returned (.int .i64 (winnerR r sz us)) ∧ Below W.heap.size W w' := fun W h => implWinnerBy r sz A n c us W h hn HX.out
          have KS : ∀ W, VotesAt W A n us → Calls Tryz.prog 8 #[.int .i64 r, .agg #[.int .i64 sz, .slice A n c]] W fun e w' => e = .returned (.int .i64 (winnerR r sz us)) ∧ Below W.heap.size W w' := fun W h => specWinnerBy r sz A n c us W h hn HX.out
          clear S
          generalize winnerR r sz us = a1 at *
          have K1 : Hid (∀ L : Later wr, Calls Tryz.prog 9 #[.int .i64 r, .agg #[.int .i64 sz, .slice A n c]] L.W fun e W' => e = .returned (.int .i64 (-1)) ∧ ∃ L' : Later wr, W' = L'.W) :=
            fun L => L.call (KM L.W (hvr.below L.h))
          have K2 : Hid (∀ L : Later wr, Calls Tryz.prog 10 #[.int .i64 r, .agg #[.int .i64 sz, .slice A n c]] L.W fun e W' => e = .returned (.int .i64 (-1)) ∧ ∃ L' : Later wr, W' = L'.W) :=
            fun L => L.call (KA L.W (hvr.below L.h))
          have K3 : Hid (∀ L : Later wr, Calls Tryz.prog 11 #[.int .i64 r, .agg #[.int .i64 sz, .slice A n c], .int .i64 k] L.W fun e W' => e = .returned (.bool false) ∧ ∃ L' : Later wr, W' = L'.W) :=
            fun L => L.call (KP L.W (hvr.below L.h))
          have K4 : Hid (∀ L : Later wr, Calls Tryz.prog 7 #[.int .i64 r, .agg #[.int .i64 sz, .slice A n c]] L.W fun e W' => e = .returned (.int .i64 a1) ∧ ∃ L' : Later wr, W' = L'.W) :=
            fun L => L.call (KI L.W (hvr.below L.h))
          have K5 : Hid (∀ L : Later wr, Calls Tryz.prog 8 #[.int .i64 r, .agg #[.int .i64 sz, .slice A n c]] L.W fun e W' => e = .returned (.int .i64 a1) ∧ ∃ L' : Later wr, W' = L'.W) :=
            fun L => L.call (KS L.W (hvr.below L.h))
          have z0 : ∀ L : Later wr, L.W.cell? ⟨w3.heap.size, 0, none⟩ = some (.int .i64 sz) := fun L => L.cell y0
          have z1 : ∀ L : Later wr, L.W.cell? ⟨w3.heap.size, 1, none⟩ = some (.slice A n c) := fun L => L.cell y1
          clear y0 y1 hvr KM KA KP KI KS
          go_upto_region 16 with fail
          clear ck
          refine wp_region_later (by kernel_rfl) (by kernel_rfl) ?_
          repeat (go_big_quiet_step (first | (with_reducible exact K1.out _) | (with_reducible exact K2.out _) | (with_reducible exact K3.out _) | (with_reducible exact K4.out _) | (with_reducible exact K5.out _)))
          (refine wpQuiet_nil ?_; rintro wl ⟨L_, hwl_⟩; have hbl := L_.h; rw [← hwl_] at hbl; clear hwl_ L_)
          clear z0 z1 K1 K2 K3 K4 K5
          have hbr2 := hbr.trans (hbl.mono hbr.size)
          clear hbr hbl
          go_wp2
          go_roundw
          case rel => exact ⟨q + 1, by omega, by go_num, hbr2⟩
          case measure => simp [intOf]; omega
        · obtain rfl : q = 3 := by omega
          rw [show ((3 : Nat) : Int) = (3 : Int) from rfl]
          have hb6 := hbb6.trans (hbr.mono hbb6.size)
          replace x0 := cell_carry hbr x0
          replace x1 := cell_carry hbr x1
          have hv6 := hv6.below hbr
          clear hbr cL6 hbb6
          have bL7 := alloc_below wr (.cells #[.int .i64 1, .int .i64 6, .int .i64 7, .int .i64 10, .int .i64 4, .int .i64 13] 3)
          have cL7 : Hid (∀ q, q < 6 → (wr.alloc (.cells #[.int .i64 1, .int .i64 6, .int .i64 7, .int .i64 10, .int .i64 4, .int .i64 13] 3)).cell? ⟨wr.heap.size, q, none⟩ = some (.int .i64 (ix [1, 6, 7, 10, 4, 13] q))) := fun q hq => lit_cell wr [1, 6, 7, 10, 4, 13] 3 q hq
          have hv7 := hv6.below bL7
          have x0 := cell_carry bL7 x0
          have x1 := cell_carry bL7 x1
          have hbb7 := hb6.trans (bL7.mono hb6.size)
          clear bL7
          go_wp2_with fail
          obtain ⟨g7, hg7⟩ : ∃ g, wr.heap.size = g := ⟨_, rfl⟩
          rw [hg7] at cL7 ⊢
          generalize wr.alloc (.cells #[.int .i64 1, .int .i64 6, .int .i64 7, .int .i64 10, .int .i64 4, .int .i64 13] 3) = w7 at *
          clear hg7
          go_loopw [14, 95] (fun _ i_ wr => ∃ q : Nat, q ≤ 6 ∧ i_ = .int .i64 q ∧ Below w7.heap.size w7 wr) (fun _ i_ _ => 6 - (intOf i_).toNat)
          case atStart => exact ⟨0, Nat.zero_le _, rfl, Below.refl _ _⟩
          case round =>
            obtain ⟨q, hq, rfl, hbr⟩ := hrel
            by_cases hlt : q < 6
            · have ck := cell_carry hbr (cL7.out q hlt)
              have hvr := hv7.below hbr
              have y0 := cell_carry hbr x0
              have y1 := cell_carry hbr x1
              have HQ := lawM HP.out q hlt
              obtain ⟨r, hr⟩ : ∃ r, ix [1, 6, 7, 10, 4, 13] q = r := ⟨_, rfl⟩
              rw [hr] at ck HQ
              clear hr
              have KC := implMissesMajority r sz A n c us wr hvr HP.out
              rw [HQ] at KC
              have HKC := Lib.hid KC
              clear KC HQ hvr
              go_wp2_with fail
              (with_reducible refine HKC.out.mono ?_)
              rintro e wc ⟨rfl, hbc⟩
              have hbr2 := hbr.trans (hbc.mono hbr.size)
              clear hbr hbc HKC ck y0 y1
              go_wp2
              go_roundw
              case rel => exact ⟨q + 1, by omega, by go_num, hbr2⟩
              case measure => simp [intOf]; omega
            · obtain rfl : q = 6 := by omega
              rw [show ((6 : Nat) : Int) = (6 : Int) from rfl]
              have hb7 := hbb7.trans (hbr.mono hbb7.size)
              replace x0 := cell_carry hbr x0
              replace x1 := cell_carry hbr x1
              have hv7 := hv7.below hbr
              clear hbr cL7 hbb7
              have KM4 := Lib.hid (fun W (h : VotesAt W A n us) => implMonoNo 4 sz A n c us W h HP.out (by omega) (by omega) (fun q hq h1 => mono_cop HP.out hq h1))
              have KM5 := Lib.hid (fun W (h : VotesAt W A n us) => implMonoNo 5 sz A n c us W h HP.out (by omega) (by omega) (fun q hq h1 => mono_max HP.out hq h1))
              have KRV := Lib.hid (fun W (h : VotesAt W A n us) => implReversalNo sz A n c us W h HP.out)
              go_wp2_with fail
              (with_reducible refine (KM4.out _ hv7).mono ?_)
              rintro e v1 ⟨rfl, hd1⟩
              replace x0 := cell_carry hd1 x0
              replace x1 := cell_carry hd1 x1
              replace hv7 := hv7.below hd1
              replace hb7 := hb7.trans (hd1.mono hb7.size)
              clear hd1
              go_wp2_with fail
              (with_reducible refine (KM5.out _ hv7).mono ?_)
              rintro e v2 ⟨rfl, hd1⟩
              replace x0 := cell_carry hd1 x0
              replace x1 := cell_carry hd1 x1
              replace hv7 := hv7.below hd1
              replace hb7 := hb7.trans (hd1.mono hb7.size)
              clear hd1
              go_wp2_with fail
              (with_reducible refine (KRV.out _ hv7).mono ?_)
              rintro e v3 ⟨rfl, hd1⟩
              replace hb7 := hb7.trans (hd1.mono hb7.size)
              clear hd1 x0 x1
              go_wp2
              go_ret
              exact ⟨rfl, hb7⟩
end Go.Proofs.YtaanppihgldeaaaGreatDoor
