/- Kemeny's ranking, the reference's side. PathStrengths, SchulzeWinners, the reference's side. -/
import Derived.Test.YtaanppihgldeaaaGreatDoorW23
import Derived.Test.YtaanppihgldeaaaGreatDoorW14
import Derived.Test.YtaanppihgldeaaaGreatDoorW12
import Derived.Test.YtaanppihgldeaaaGreatDoorW05
namespace Go.Proofs.YtaanppihgldeaaaGreatDoor
set_option linter.unusedSimpArgs false
set_option linter.unusedVariables false
set_option linter.unusedVariables false
open Go.RowKit

theorem sumN_add (f g : Nat → Int) : ∀ k, sumN (fun i => f i + g i) k = sumN f k + sumN g k
  | 0 => rfl
  | k + 1 => by rw [sumN, sumN, sumN, sumN_add f g k]; omega
theorem sum_turn (g : Nat → Nat → Int) : ∀ n, sumN (fun i => sumN (g i) i) n = sumN (fun j => sumN (fun i => g (j + 1 + i) j) (n - (j + 1))) n
  | 0 => rfl
  | n + 1 => by
    have h : sumN (fun j => sumN (fun i => g (j + 1 + i) j) (n + 1 - (j + 1))) n = sumN (fun j => sumN (fun i => g (j + 1 + i) j) (n - (j + 1)) + g n j) n := sumN_congr fun j hj => by
      rw [show n + 1 - (j + 1) = (n - (j + 1)) + 1 by omega, sumN, show j + 1 + (n - (j + 1)) = n by omega]
    rw [sumN, sumN, sum_turn g n, h, sumN_add, Nat.sub_self, sumN]; omega
def swG (xs ys : List Int) (i j : Nat) : Int := if pref ys (ix xs i) (ix xs j) then 1 else 0
theorem swG_bd (xs ys : List Int) (i j : Nat) : 0 ≤ swG xs ys i j ∧ swG xs ys i j ≤ 1 := by unfold swG; split <;> omega
/-- the pairs that the reference counts, behind the first k numbers -/
def swS (xs ys : List Int) (k : Nat) : Int := sumN (fun i => sumN (swG xs ys i) i) k
theorem swIn_sum (xs ys : List Int) (i : Nat) : ∀ j, swIn xs ys i j = sumN (fun a => swG xs ys (i + 1 + a) i) j
  | 0 => rfl
  | j + 1 => by rw [swIn, sumN, swIn_sum xs ys i j]; rfl
theorem swOut_sum (xs ys : List Int) : ∀ k, swOut xs ys k = sumN (fun j => sumN (fun a => swG xs ys (j + 1 + a) j) (xs.length - (j + 1))) k
  | 0 => rfl
  | k + 1 => by rw [swOut, sumN, swOut_sum xs ys k, swIn_sum]
theorem swaps_sum (xs ys : List Int) : swaps xs ys = swS xs ys xs.length := by unfold swaps swS; rw [swOut_sum, sum_turn]
theorem swS_bd (xs ys : List Int) (k : Nat) (hk : k ≤ 5) : 0 ≤ swS xs ys k ∧ swS xs ys k ≤ 5 * k := by
  have key : ∀ k, k ≤ 5 → 0 ≤ swS xs ys k ∧ swS xs ys k ≤ 5 * k := by
    intro k
    induction k with
    | zero => intro _; exact ⟨Int.le_refl _, Int.le_refl _⟩
    | succ k ih =>
      intro h
      have h1 := ih (by omega)
      have h2 := sumN_bd (lo := 0) (hi := 1) (fun j => swG_bd xs ys k j) k
      have e : swS xs ys (k + 1) = swS xs ys k + sumN (swG xs ys k) k := rfl
      rw [e]; omega
  exact key k hk
set_option maxRecDepth 100000 in
set_option maxHeartbeats 1000000 in
theorem specSwaps (A : Option Addr) (c : Nat) (xs : List Int) (B : Option Addr) (n d : Nat) (ys : List Int) (w : World) (h : IntsAt w A xs.length xs) (hc : xs.length ≤ c) (x5 : xs.length ≤ 5) (g : IntsAt w B n ys) (y5 : n ≤ 1048576) :
    Calls Tryz.prog 238 #[.slice A xs.length c, .slice B n d] w fun e w' => e = .returned (.int .i64 (swaps xs ys)) ∧ w = w' := by
  rw [swaps_sum]
  have HD := Lib.hid (fun k (hk : k < xs.length) => h.at_ hk)
  have HB := Lib.hid (fun k hk => swS_bd xs ys k hk)
  have HG := Lib.hid (fun k j => sumN_bd (lo := 0) (hi := 1) (fun j => swG_bd xs ys k j) j)
  have KP := Lib.hid (fun x y => specPrefers B n d ys x y w g (by omega))
  go_enter Tryz.func238, Tryz.ntmps238
  go_wp2
  go_loopw [5, 6, 7, 12] (fun v _ _ i wr => ∃ k : Nat, k ≤ xs.length ∧ i = .int .i64 k ∧ v = .int .i64 (swS xs ys k) ∧ wr = w) (fun _ _ _ i _ => xs.length - (intOf i).toNat)
  case atStart => exact ⟨0, Nat.zero_le _, rfl, rfl, rfl⟩
  case round =>
    obtain ⟨k, hk, rfl, rfl, rfl⟩ := hrel
    by_cases hlt : k < xs.length
    · obtain ⟨b, o, rfl, _, hcx⟩ := HD.out k hlt
      have HC := Lib.hid hcx
      have hck := hcx k hlt
      have HS : Hid (swS xs ys (k + 1) = swS xs ys k + sumN (swG xs ys k) k) := rfl
      have HZ : Hid (swS xs ys k = swS xs ys k + sumN (swG xs ys k) 0) := (Int.add_zero _).symm
      have bd := HB.out k (by omega)
      have HBJ := Lib.hid (HG.out k)
      have HX : Hid (∀ j, swG xs ys k j = if pref ys (ix xs k) (ix xs j) then 1 else 0) := fun j => rfl
      generalize swS xs ys k = s at *
      generalize hxk : ix xs k = x at *
      have i1 : (k : Int) < (xs.length : Int) := by omega
      have k1 : (0 : Int) ≤ (k : Int) := by omega
      have k2 : (k : Int) ≤ (c : Int) := by omega
      clear hcx hxk
      obtain ⟨wo, rfl⟩ : ∃ wo, wo = wr := ⟨_, rfl⟩
      go_wp2
      go_loopw [5, 9, 21] (fun v _ i wr => ∃ j : Nat, j ≤ k ∧ i = .int .i64 j ∧ v = .int .i64 (s + sumN (swG xs ys k) j) ∧ wr = wo) (fun _ _ i _ => k - (intOf i).toNat)
      case atStart => exact ⟨0, Nat.zero_le _, rfl, by rw [← HZ.out], rfl⟩
      case round =>
        obtain ⟨j, hj, rfl, rfl, rfl⟩ := hrel
        by_cases hlj : j < k
        · have d1 := HC.out j (by omega)
          have HJ : Hid (sumN (swG xs ys k) (j + 1) = sumN (swG xs ys k) j + swG xs ys k j) := rfl
          have bj := HBJ.out j
          have KP2 := Lib.hid (KP.out x (ix xs j))
          rw [HX.out] at HJ
          generalize sumN (swG xs ys k) j = t at *
          generalize ix xs j = y at *
          generalize pref ys x y = q at *
          have i5 : (j : Int) < (k : Int) := by omega
          have i6 : (j : Int) < (xs.length : Int) := by omega
          go_wp2_with fail
          (with_reducible refine KP2.out.mono ?_)
          rintro e w1 ⟨rfl, rfl⟩
          clear KP2 KP HD
          cases q
          · rw [if_neg (by simp), Int.add_zero] at HJ
            go_wp2
            go_roundw
            case rel => exact ⟨j + 1, by omega, by go_num, by rw [HJ.out], by trivial⟩
            case measure => simp [intOf]; omega
          · rw [if_pos rfl] at HJ
            have ew : IntKind.i64.wrap (s + t + 1) = s + t + 1 := IntWalk.i64_in _ (by omega)
            go_wp2
            go_roundw
            case rel => exact ⟨j + 1, by omega, by go_num, by rw [HJ.out, ← Int.add_assoc], by trivial⟩
            case measure => simp [intOf]; omega
        · obtain rfl : j = k := by omega
          rw [← HS.out]
          go_wp2
          go_roundw
          case rel => exact ⟨j + 1, by omega, by go_num, rfl, by trivial⟩
          case measure => simp [intOf]; omega
    · obtain rfl : k = xs.length := by omega
      go_wp2
      go_ret
      exact ⟨rfl, by trivial⟩
set_option maxRecDepth 100000 in
set_option maxHeartbeats 1000000 in
theorem specKem (m : Int) (A : Option Addr) (n c : Nat) (vs : List Vt) (B : Option Addr) (l d : Nat) (r : List Int) (w : World) (h : VotesAt w A n vs) (F : PF m vs) (g : IntsAt w B l r) (hl : l ≤ 1048576) :
    Calls Tryz.prog 219 #[.agg #[.int .i64 m, .slice A n c], .slice B l d] w fun e w' => e = .returned (.int .i64 (kem vs r)) ∧ Below w.heap.size w w' := by
  have g0 := g.below (alloc_below w (.cells #[.int .i64 m, .slice A n c] 24))
  obtain rfl := h.len
  have hB := alloc_below w (.cells #[.int .i64 m, .slice A vs.length c] 24)
  obtain ⟨x0, x1⟩ := PBox.new w m A vs.length c 24 rfl
  replace h := h.below hB
  generalize hw0 : w.alloc (.cells #[.int .i64 m, .slice A vs.length c] 24) = w0 at *
  have HF := Lib.hid F
  have F5 := F.n
  unfold kem
  clear g F
  go_enter Tryz.func219, Tryz.ntmps219
  go_wp2
  clear hw0
  go_loopw [5, 11] (fun s i wr => ∃ k : Nat, k ≤ vs.length ∧ i = .int .i64 k ∧ s = .int .i64 (kemTo vs r k) ∧ Below w0.heap.size w0 wr) (fun _ i _ => vs.length - (intOf i).toNat)
  case atStart => exact ⟨0, Nat.zero_le _, rfl, rfl, Below.refl _ _⟩
  case round =>
    obtain ⟨k, hk, rfl, rfl, hb⟩ := hrel
    by_cases hlt : k < vs.length
    · obtain ⟨b, o, A', c', rfl, hbl, hc1, hc2, hcc, hin⟩ := (h.below hb).at_ hlt
      have g1 := g0.below hb
      have hv := vx_mem hlt
      have bd := kemTo_bd HF.out r k (by omega)
      have vr := HF.out.r _ hv
      have vc := HF.out.c _ hv
      have sb := swaps_bd (ys := r) vr
      have pb := prod_25 vc sb
      have v5 := (rankOk_facts vr).2.2.1
      have v6 := (rankOk_facts vr).2.1
      have HS : Hid (kemTo vs r (k + 1) = kemTo vs r k + (vx vs k).c * swaps (vx vs k).r r) := rfl
      generalize vx vs k = v at *
      generalize kemTo vs r k = s at *
      have b1 := alloc_below wr (.cells #[.slice A' v.r.length c', .int .i64 v.c] 44)
      obtain ⟨y0, y1⟩ := new_pair wr (.slice A' v.r.length c') (.int .i64 v.c) 44 rfl
      have hB2 := hb.trans (b1.mono hb.size)
      have hi2 := hin.below b1
      have g2 := g1.below b1
      generalize hw3 : wr.alloc (.cells #[.slice A' v.r.length c', .int .i64 v.c] 44) = w3 at *
      have K1 := Lib.hid (fun n => Calls.quiet_of_same (n := n) ((specSwaps A' c' v.r B l d r (w3.drewN n) (hi2.drewN n) hcc (by omega) (g2.drewN n) hl).mono fun _ _ ⟨he, hw⟩ => ⟨he, hw.symm⟩))
      generalize swaps v.r r = y at *
      have ew : IntKind.i64.wrap (v.c * y) = v.c * y := IntWalk.i64_in _ (by omega)
      have ew2 : IntKind.i64.wrap (s + v.c * y) = s + v.c * y := IntWalk.i64_in _ (by omega)
      clear vr hi2 g2 g1 hin hb b1 hv v5 v6
      go_wp2
      go_quiet ((with_reducible exact K1.out _))
      go_wp2
      go_roundw
      case rel => exact ⟨k + 1, by omega, by go_num, by rw [HS.out], hB2.trans (below_of_drewN rfl)⟩
      case measure => simp [intOf]; omega
    · obtain rfl : k = vs.length := by omega
      have hB2 := hB.trans (hb.mono hB.size)
      go_wp2
      go_ret
      exact ⟨rfl, hB2⟩
theorem kem_bd {m : Int} {vs : List Vt} (F : PF m vs) (r : List Int) : 0 ≤ kem vs r ∧ kem vs r ≤ 600000 := by
  have h1 := kemTo_bd F r vs.length (Nat.le_refl _)
  have h2 := F.n
  unfold kem; omega
set_option maxRecDepth 100000 in
set_option maxHeartbeats 1000000 in
theorem specBestK (m : Int) (A : Option Addr) (n c : Nat) (vs : List Vt) (w : World) (h : VotesAt w A n vs) (F : PF m vs) :
    Calls Tryz.prog 192 #[.agg #[.int .i64 m, .slice A n c]] w fun e w' => ∃ A' c' x, e = .returned (.tuple #[.slice A' (kemenyR m vs).length c', .int .i64 x]) ∧ IntsAt w' A' (kemenyR m vs).length (kemenyR m vs) ∧ (kemenyR m vs).length ≤ c' ∧ Below w.heap.size w w' := by
  obtain rfl := h.len
  have hB := alloc_below w (.cells #[.int .i64 m, .slice A vs.length c] 24)
  obtain ⟨x0, x1⟩ := PBox.new w m A vs.length c 24 rfl
  replace h := h.below hB
  generalize hw0 : w.alloc (.cells #[.int .i64 m, .slice A vs.length c] 24) = w0 at *
  have RO := Lib.hid (fun r (hr : r ∈ allRankings m) => rank_all' F.m1 F.m5 hr)
  have RS := rank_some F.m1 F.m5
  have R3 := allRankings_len (m := m)
  have KA := Lib.hid (fun W => specAllRankings m W)
  have KK := Lib.hid (fun B l d r W hW g hl => specKem m A vs.length c vs B l d r W hW F g hl)
  unfold kemenyR leastR
  clear F
  generalize allRankings m = rs at *
  obtain ⟨T, hT⟩ : ∃ T, rx rs (minIx (kem vs) rs rs.length) = T := ⟨_, rfl⟩
  rw [hT]
  have HT := Lib.hid hT
  clear hT
  have b3 := alloc_below w0 (.cells #[] 3)
  have o3 := OwnI.empty w0 (lo := w0.heap.size) (hi := (w0.alloc (.cells #[] 3)).heap.size) (Nat.le_refl _) (by simp)
  have h1 := h.below b3
  have z0 := hB.size
  have y0 := cell_carry b3 x0
  have y1 := cell_carry b3 x1
  replace hB := hB.trans (b3.mono hB.size)
  generalize hw1 : w0.alloc (.cells #[] 3) = w1 at *
  clear h b3
  go_enter Tryz.func192, Tryz.ntmps192
  go_wp2_with fail
  (with_reducible refine (KA.out _).mono ?_)
  rintro e w2 ⟨A2, c2, rfl, o2, b2⟩
  replace hB := hB.trans (b2.mono hB.size)
  have hr2 := o2.at_
  have h2 := h1.below b2
  have e2 := o3.at_.below b2
  replace y0 := cell_carry b2 y0
  replace y1 := cell_carry b2 y1
  clear b2 o2 KA x0 x1 hw0 hw1 o3 h1
  go_wp2
  go_loopw [4, 5, 6, 7, 8, 9, 15] (fun b l q _ _ _ i wr => ∃ k : Nat, k ≤ rs.length ∧ i = .int .i64 k ∧ (∃ z : Int, q = .int .i64 z ∧ 0 ≤ z ∧ z ≤ k) ∧ (∃ u : Int, l = .int .i64 u ∧ (k = 0 ∨ u = kem vs (rx rs (minIx (kem vs) rs k)))) ∧ (∃ ba n' c', b = .slice ba n' c' ∧ (k = 0 ∨ (n' = (rx rs (minIx (kem vs) rs k)).length ∧ n' ≤ c' ∧ IntsAt wr ba n' (rx rs (minIx (kem vs) rs k))))) ∧ Below w2.heap.size w2 wr) (fun _ _ _ _ _ _ i _ => rs.length - (intOf i).toNat)
  case atStart => exact ⟨0, Nat.zero_le _, rfl, ⟨0, rfl, by omega, by omega⟩, ⟨0, rfl, .inl rfl⟩, ⟨_, _, _, rfl, .inl rfl⟩, Below.refl _ _⟩
  case round =>
    obtain ⟨k, hk, rfl, ⟨z, rfl, z0, zk⟩, ⟨u, rfl, hu⟩, ⟨ba, n', cb, rfl, hbst⟩, hb⟩ := hrel
    by_cases hlt : k < rs.length
    · obtain ⟨b, o, A', c', rfl, _, hc1, hcc, hin⟩ := (hr2.below hb).at_ hlt
      have ro := RO.out _ (rx_mem hlt)
      have rl := (rankOk_facts ro).2.2.1
      have r5 := (rankOk_facts ro).2.1
      have y0' := cell_carry hb y0
      have y1' := cell_carry hb y1
      have KM := Lib.hid (KK.out A' (rx rs k).length c' (rx rs k) wr (h2.below hb) hin (by omega))
      have HS : Hid (minIx (kem vs) rs (k + 1) = if k = 0 then 0 else if kem vs (rx rs k) < kem vs (rx rs (minIx (kem vs) rs k)) then k else minIx (kem vs) rs k) := rfl
      have i1 : (k : Int) < (rs.length : Int) := by omega
      obtain ⟨y, hy⟩ : ∃ y, kem vs (rx rs k) = y := ⟨_, rfl⟩
      rw [hy] at KM HS
      have HY := Lib.hid hy
      clear ro hy rl r5
      have HBS := Lib.hid hbst
      have HIN := Lib.hid hin
      by_cases h0 : k = 0
      · have HE : Hid (minIx (kem vs) rs (k + 1) = k) := by have := HS.out; rw [if_pos h0] at this; rw [h0] at this ⊢; exact this
        have e0 : ((k : Int) == 0) = true := by rw [beq_iff_eq]; omega
        clear hu hbst hin h0
        go_wp2_with fail
        (with_reducible refine KM.out.mono ?_)
        rintro e w3 ⟨rfl, b3⟩
        have hin := HIN.out.below b3
        replace hb := hb.trans (b3.mono hb.size)
        clear b3 y0' y1'
        go_wp2
        go_roundw
        case rel => exact ⟨k + 1, by omega, by go_num, ⟨1, rfl, by omega, by omega⟩, ⟨_, rfl, .inr (by rw [HE.out, HY.out])⟩, ⟨_, _, _, rfl, .inr ⟨by rw [HE.out], hcc, by rw [HE.out]; exact hin⟩⟩, hb⟩
        case measure => simp [intOf]; omega
      · have e0 : ((k : Int) == 0) = false := by rw [beq_eq_false_iff_ne]; omega
        rw [if_neg h0] at HS
        obtain ⟨rfl, hcc', hinb⟩ := hbst.resolve_left h0
        have HU := Lib.hid (hu.resolve_left h0)
        rw [← HU.out] at HS
        have HINB := Lib.hid hinb
        clear hu hbst hin h0 HBS hinb
        by_cases hyu : y < u
        · rw [if_pos hyu] at HS
          have e1 : decide (y < u) = true := decide_eq_true hyu
          clear HINB
          go_wp2_with fail
          (with_reducible refine KM.out.mono ?_)
          rintro e w3 ⟨rfl, b3⟩
          have hin := HIN.out.below b3
          replace hb := hb.trans (b3.mono hb.size)
          clear b3 y0' y1'
          go_wp2
          go_roundw
          case rel => exact ⟨k + 1, by omega, by go_num, ⟨1, rfl, by omega, by omega⟩, ⟨_, rfl, .inr (by rw [HS.out, HY.out])⟩, ⟨_, _, _, rfl, .inr ⟨by rw [HS.out], hcc, by rw [HS.out]; exact hin⟩⟩, hb⟩
          case measure => simp [intOf]; omega
        · rw [if_neg hyu] at HS
          have e1 : decide (y < u) = false := decide_eq_false hyu
          by_cases hyu2 : y = u
          · have e3 : (y == u) = true := by rw [beq_iff_eq]; exact hyu2
            have ew : IntKind.i64.wrap (z + 1) = z + 1 := IntWalk.i64_in _ (by have := R3; omega)
            clear hyu2 HIN
            go_wp2_with fail
            (with_reducible refine KM.out.mono ?_)
            rintro e w3 ⟨rfl, b3⟩
            have hin := HINB.out.below b3
            replace hb := hb.trans (b3.mono hb.size)
            clear b3 y0' y1'
            go_wp2
            go_roundw
            case rel => exact ⟨k + 1, by omega, by go_num, ⟨z + 1, rfl, by omega, by omega⟩, ⟨_, rfl, .inr (by rw [HS.out, HU.out])⟩, ⟨_, _, _, rfl, .inr ⟨by rw [HS.out], hcc', by rw [HS.out]; exact hin⟩⟩, hb⟩
            case measure => simp [intOf]; omega
          · have e3 : (y == u) = false := by rw [beq_eq_false_iff_ne]; exact hyu2
            clear hyu2 HIN
            go_wp2_with fail
            (with_reducible refine KM.out.mono ?_)
            rintro e w3 ⟨rfl, b3⟩
            have hin := HINB.out.below b3
            replace hb := hb.trans (b3.mono hb.size)
            clear b3 y0' y1'
            go_wp2
            go_roundw
            case rel => exact ⟨k + 1, by omega, by go_num, ⟨z, rfl, by omega, by omega⟩, ⟨_, rfl, .inr (by rw [HS.out, HU.out])⟩, ⟨_, _, _, rfl, .inr ⟨by rw [HS.out], hcc', by rw [HS.out]; exact hin⟩⟩, hb⟩
            case measure => simp [intOf]; omega
    · obtain rfl : k = rs.length := by omega
      obtain ⟨rfl, hcc', hinb⟩ := hbst.resolve_left (by omega)
      rw [HT.out] at hcc' hinb ⊢
      have hB2 := hB.trans (hb.mono hB.size)
      go_wp2
      go_ret2
      exact ⟨_, _, ⟨_, rfl⟩, hinb, hcc', hB2⟩
set_option maxHeartbeats 1000000 in
theorem specKemeny (m : Int) (A : Option Addr) (n c : Nat) (vs : List Vt) (w : World) (h : VotesAt w A n vs) (hn : n ≤ 1048576) (hx : ∀ v ∈ vs, v.r.length ≤ 1048576) (hp : profOk m vs = true) :
    Calls Tryz.prog 143 #[.agg #[.int .i64 m, .slice A n c]] w fun e w' => ∃ A' c', e = .returned (.slice A' (kemenyR m vs).length c') ∧ IntsAt w' A' (kemenyR m vs).length (kemenyR m vs) ∧ (kemenyR m vs).length ≤ c' ∧ Below w.heap.size w w' := by
  obtain rfl := h.len
  have hB := alloc_below w (.cells #[.int .i64 m, .slice A vs.length c] 24)
  obtain ⟨x0, x1⟩ := PBox.new w m A vs.length c 24 rfl
  replace h := h.below hB
  generalize hw0 : w.alloc (.cells #[.int .i64 m, .slice A vs.length c] 24) = w0 at *
  have K := Lib.hid (specProfileOk m A vs.length c vs _ h hn hx)
  rw [hp] at K
  have K2 := Lib.hid (fun W hW => specBestK m A vs.length c vs W hW (pf_of hp))
  generalize kemenyR m vs = T at *
  clear hx hp
  go_enter Tryz.func143, Tryz.ntmps143
  go_wp2_with fail
  (with_reducible refine (K.out).mono ?_)
  rintro e w1 ⟨rfl, b1⟩
  replace x0 := cell_carry b1 x0
  replace x1 := cell_carry b1 x1
  replace h := h.below b1
  replace hB := hB.trans (b1.mono hB.size)
  clear b1
  go_wp2_with fail
  (with_reducible refine (K2.out _ h).mono ?_)
  rintro e w2 ⟨A2, c2, x, rfl, i2, l2, b2⟩
  go_wp2
  go_ret
  exact ⟨_, _, rfl, i2, l2, hB.trans (b2.mono hB.size)⟩
end Go.Proofs.YtaanppihgldeaaaGreatDoor
namespace Go.Proofs.YtaanppihgldeaaaGreatDoor
set_option linter.unusedSimpArgs false
set_option linter.unusedVariables false
set_option linter.unusedVariables false
open Go.RowKit

theorem gfn_succ {α : Type} (f : Nat → α) (k : Nat) : gfn f (k + 1) = gfn f k ++ [f k] := by unfold gfn; rw [List.range_succ, List.map_append]; rfl
set_option maxRecDepth 100000 in
set_option maxHeartbeats 2000000 in
theorem specPathStrengths (m : Int) (A : Option Addr) (n c : Nat) (vs : List Vt) (w : World) (h : VotesAt w A n vs) (hn : n ≤ 1048576) (hx : ∀ v ∈ vs, v.r.length ≤ 1048576) :
    Calls Tryz.prog 189 #[.agg #[.int .i64 m, .slice A n c]] w fun e w' => ∃ A' c', e = .returned (.slice A' (strengthR m vs).length c') ∧ OwnR w' w.heap.size w'.heap.size (.slice A' (strengthR m vs).length c') (strengthR m vs) ∧ Below w.heap.size w w' := by
  obtain rfl := h.len
  have hB := alloc_below w (.cells #[.int .i64 m, .slice A vs.length c] 24)
  obtain ⟨x0, x1⟩ := PBox.new w m A vs.length c 24 rfl
  replace h := h.below hB
  generalize hw0 : w.alloc (.cells #[.int .i64 m, .slice A vs.length c] 24) = w0 at *
  have K := Lib.hid (specProfileOk m A vs.length c vs _ h hn hx)
  unfold strengthR
  clear hx
  cases hp : profOk m vs
  · rw [hp] at K
    simp only [Bool.false_eq_true, if_false, List.length_nil]
    go_enter Tryz.func189, Tryz.ntmps189
    go_wp2_with fail
    (with_reducible refine (K.out).mono ?_)
    rintro e w1 ⟨rfl, b1⟩
    replace hB := hB.trans (b1.mono hB.size)
    clear b1
    go_wp2
    go_ret
    exact ⟨_, _, rfl, OwnR.nil _ _ _, hB⟩
  rw [hp] at K
  simp only [if_true]
  have F := Lib.hid (pf_of hp)
  obtain ⟨M, rfl⟩ : ∃ M : Nat, m = (M : Int) := ⟨m.toNat, by have := F.out.m1; omega⟩
  have M5 : M ≤ 5 := by have := F.out.m5; omega
  have M1 : 1 ≤ M := by have := F.out.m1; omega
  rw [Int.toNat_natCast, mat_len]
  clear hp
  go_enter Tryz.func189, Tryz.ntmps189
  go_wp2_with fail
  (with_reducible refine (K.out).mono ?_)
  rintro e w1 ⟨rfl, b1⟩
  replace x0 := cell_carry b1 x0
  replace x1 := cell_carry b1 x1
  replace h := h.below b1
  replace hB := hB.trans (b1.mono hB.size)
  clear b1
  clear K hw0
  have b3 := alloc_below w1 (.cells #[] 27)
  have o3 := OwnR.empty w1 (lo := w1.heap.size) (hi := (w1.alloc (.cells #[] 27)).heap.size) (Nat.le_refl _) (by simp)
  have x0' := cell_carry b3 x0
  go_wp2
  go_loopw [3, 4] (fun v i wr => ∃ (k : Nat) (A' : Option Addr) (c' : Nat), k ≤ M ∧ i = .int .i64 k ∧ v = .slice A' k c' ∧ OwnR wr w1.heap.size wr.heap.size (.slice A' k c') (gfn (fun a => lfn (strI vs a) M) k) ∧ Below w1.heap.size w1 wr) (fun _ i _ => M - (intOf i).toNat)
  case atStart => exact ⟨0, _, 0, Nat.zero_le _, rfl, rfl, o3, b3⟩
  case round =>
    clear o3 b3 x0'
    obtain ⟨wo, rfl⟩ : ∃ wo, wo = wr := ⟨_, rfl⟩
    obtain ⟨k, A1, c1, hk, rfl, rfl, hok, hbr⟩ := hrel
    have x0' := cell_carry hbr x0
    have x1' := cell_carry hbr x1
    have zr := hbr.size
    by_cases hlt : k < M
    · have kk : (k : Int) < (M : Int) := by omega
      go_wp2_with (first | (at_make; refine wpList_make_ints _ rfl _ _ rfl M rfl rfl (by omega) ?_) | fail)
      intro w4 hr4 hb4 hz4
      rw [part_start (full := strI vs k)] at hr4
      have gs : wo.heap.size < w4.heap.size := by omega
      have x04 := cell_carry hb4 x0'
      have hbr4 := hbr.trans (hb4.mono hbr.size)
      clear hz4 x0' x1'
      go_wp2
      go_loopw [6, 25] (fun _ i wr => ∃ j : Nat, j ≤ M ∧ i = .int .i64 j ∧ OwnI wr wo.heap.size (wo.heap.size + 1) (.slice (some ⟨wo.heap.size, 0, none⟩) M M) (lfn (part (strI vs k) j 0 0) M) ∧ Below wo.heap.size wo wr ∧ wo.heap.size < wr.heap.size) (fun _ i _ => M - (intOf i).toNat)
      case atStart => exact ⟨0, Nat.zero_le _, rfl, hr4, hb4, gs⟩
      case round =>
        clear hr4 hb4 gs x04 hbr4
        obtain ⟨j, hj, rfl, hoj, hbj, zj⟩ := hrel
        have hbt := hbr.trans (hbj.mono hbr.size)
        have x0' := cell_carry hbt x0
        have x1' := cell_carry hbt x1
        by_cases hlj : j < M
        · have hv := h.below hbt
          have HS : Hid (strI vs k j = if beatsP vs (k : Int) (j : Int) then pairP vs (k : Int) (j : Int) else 0) := rfl
          have KB := Lib.hid (specBeats (M : Int) A vs.length c vs (k : Int) (j : Int) wr hv F.out)
          have KP := Lib.hid (fun W hW => specPair (M : Int) A vs.length c vs (k : Int) (j : Int) W hW F.out)
          generalize beatsP vs (k : Int) (j : Int) = q at *
          generalize pairP vs (k : Int) (j : Int) = y at *
          cases q
          · rw [if_neg (by simp)] at HS
            clear hv KP
            go_wp2_with fail
            (with_reducible refine KB.out.mono ?_)
            rintro e w6 ⟨rfl, b6⟩
            have z6 := b6.size
            have hoj2 := hoj.belowW b6
            have hbj2 := hbj.trans (b6.mono hbj.size)
            rw [part_next (M := M) HS.out.symm] at hoj2
            clear hoj b6 KB x0' x1'
            go_wp2
            go_roundw
            case rel => exact ⟨j + 1, by omega, by go_num, hoj2, hbj2, by omega⟩
            case measure => simp [intOf]; omega
          · rw [if_pos rfl] at HS
            go_wp2_with fail
            (with_reducible refine KB.out.mono ?_)
            rintro e w6 ⟨rfl, b6⟩
            have z6 := b6.size
            have hoj2 := hoj.belowW b6
            have hbj2 := hbj.trans (b6.mono hbj.size)
            have hv2 := hv.below b6
            replace x0' := cell_carry b6 x0'
            replace x1' := cell_carry b6 x1'
            clear hoj b6 KB hv hbj
            go_wp2_with fail
            (with_reducible refine (KP.out _ hv2).mono ?_)
            rintro e w7 ⟨rfl, b7⟩
            have z7 := b7.size
            have hoj3 := hoj2.belowW b7
            have hbj3 := hbj2.trans (b7.mono hbj2.size)
            clear hoj2 b7 KP hv2 hbj2 x0' x1'
            have f1 := hoj3.frozenAt j
            have f2 := hoj3.cellAt j hlj
            obtain ⟨ho8, on8⟩ := hoj3.stored j y
            rw [part_set _ hlj, part_next (M := M) HS.out.symm] at ho8
            have hb8 := hbj3.trans (on8.toBelow (Nat.le_refl _) hbj3.size)
            have i1 : (j : Int) < (M : Int) := by omega
            clear on8 hbj3 hoj3
            go_wp2
            go_roundw
            case rel => exact ⟨j + 1, by omega, by go_num, ho8, hb8, by rw [World.size_setCell]; omega⟩
            case measure => simp [intOf]; omega
        · obtain rfl : j = M := by omega
          have e1 : lfn (part (strI vs k) j 0 0) j = lfn (strI vs k) j := part_end
          rw [e1] at hoj
          have hown := hok.belowW hbj
          have HN : Hid (gfn (fun a => lfn (strI vs a) j) (k + 1) = gfn (fun a => lfn (strI vs a) j) k ++ [lfn (strI vs k) j]) := gfn_succ _ _
          clear e1 hok hbj x0' x1'
          go_wp2_with (at_builtin; refine wpList_append_row _ rfl _ _ rfl w1.heap.size wo.heap.size k _ _ _ rfl (hown.alloc _) (some ⟨wo.heap.size, 0, none⟩) j j (lfn (strI vs k) j) wo.heap.size (wo.heap.size + 1) (hoj.alloc _) (Nat.le_refl _) (by simp; omega) _ 1 rfl (new_cell _ _ _ rfl) (by omega) zr (by simp; omega) ?_)
          intro A6 c6 w6 ho6 hon
          rw [← HN.out] at ho6
          have hb6 := (hbt.alloc (by omega) _).trans (hon.toBelow (Nat.le_refl _) (by simp; omega))
          have x0' := cell_carry hb6 x0
          clear hon hown hoj hbt
          go_wp2
          go_roundw
          case rel => exact ⟨k + 1, _, _, by omega, by go_num, rfl, ho6, hb6⟩
          case measure => simp [intOf]; omega
    · obtain rfl : k = M := by omega
      obtain ⟨cg, rfl⟩ : ∃ cg, cg = c1 := ⟨_, rfl⟩
      obtain ⟨g, rfl, gl, gh⟩ := hok.head (by omega)
      have hok2 : OwnR wo w1.heap.size wo.heap.size (.slice (some ⟨g, 0, none⟩) k cg) (mat (fwO (strI vs) k 0) k) := hok
      clear hok
      clear F h x1 hk hlt x1'
      go_wp2
      go_loopw [7, 46] (fun _ i wr => ∃ o : Nat, o ≤ k ∧ i = .int .i64 o ∧ OwnR wr w1.heap.size wr.heap.size (.slice (some ⟨g, 0, none⟩) k cg) (mat (fwO (strI vs) k o) k) ∧ Below w1.heap.size w1 wr) (fun _ i _ => k - (intOf i).toNat)
      case atStart => exact ⟨0, Nat.zero_le _, rfl, hok2, hbr⟩
      case round =>
        clear hok2 hbr
        obtain ⟨w3, rfl⟩ : ∃ w3, w3 = wr := ⟨_, rfl⟩
        obtain ⟨o, ho, rfl, hoo, hbo⟩ := hrel
        by_cases hlo : o < k
        · have hoo2 : OwnR w3 w1.heap.size w3.heap.size (.slice (some ⟨g, 0, none⟩) k cg) (mat (fwA (fwO (strI vs) k o) k o 0) k) := hoo
          clear hoo
          go_wp2
          go_loopw [8, 51] (fun _ i wr => ∃ a : Nat, a ≤ k ∧ i = .int .i64 a ∧ OwnR wr w1.heap.size wr.heap.size (.slice (some ⟨g, 0, none⟩) k cg) (mat (fwA (fwO (strI vs) k o) k o a) k) ∧ Below w1.heap.size w1 wr) (fun _ i _ => k - (intOf i).toNat)
          case atStart => exact ⟨0, Nat.zero_le _, rfl, hoo2, hbo⟩
          case round =>
            clear hoo2 hbo
            obtain ⟨w4, rfl⟩ : ∃ w4, w4 = wr := ⟨_, rfl⟩
            obtain ⟨a, ha, rfl, hoa, hba⟩ := hrel
            by_cases hla : a < k
            · have hoa2 : OwnR w4 w1.heap.size w4.heap.size (.slice (some ⟨g, 0, none⟩) k cg) (mat (fwB (fwA (fwO (strI vs) k o) k o a) o a 0) k) := hoa
              clear hoa
              obtain ⟨f0, hf0⟩ : ∃ f, fwA (fwO (strI vs) k o) k o a = f := ⟨_, rfl⟩
              have HA : Hid (fwA (fwO (strI vs) k o) k o (a + 1) = fwB f0 o a k) := by rw [← hf0]; rfl
              rw [hf0] at hoa2
              clear hf0
              go_wp2
              go_loopw [9, 56] (fun _ i wr => ∃ b : Nat, b ≤ k ∧ i = .int .i64 b ∧ OwnR wr w1.heap.size wr.heap.size (.slice (some ⟨g, 0, none⟩) k cg) (mat (fwB f0 o a b) k) ∧ Below w1.heap.size w1 wr) (fun _ i _ => k - (intOf i).toNat)
              case atStart => exact ⟨0, Nat.zero_le _, rfl, hoa2, hba⟩
              case round =>
                clear hoa2 hba
                obtain ⟨b, hb, rfl, hob, hbb⟩ := hrel
                by_cases hlb : b < k
                · have HS : Hid (fwB f0 o a (b + 1) = fwStep (fwB f0 o a b) o a b) := rfl
                  generalize fwB f0 o a b = f at *
                  by_cases hab : a = b
                  · have e1 : ((a : Int) != (b : Int)) = false := by rw [bne_eq_false_iff_eq]; omega
                    have HS2 : Hid (fwB f0 o a (b + 1) = f) := by have := HS.out; unfold fwStep at this; rw [if_pos hab] at this; exact this
                    clear hab
                    go_wp2
                    go_roundw
                    case rel => exact ⟨b + 1, by omega, by go_num, by rw [HS2.out]; exact hob, hbb⟩
                    case measure => simp [intOf]; omega
                  · have e1 : ((a : Int) != (b : Int)) = true := by rw [bne_iff_ne]; omega
                    have HS2 : Hid (fwB f0 o a (b + 1) = upd2 f a b (max (f a b) (min (f a o) (f o b)))) := by have := HS.out; unfold fwStep at this; rw [if_neg hab] at this; exact this
                    clear hab HS
                    obtain ⟨ga, ca, s1, s2, s3, s4, sp⟩ := hob.spot a hla (by rw [mat_rx hla, lfn_len]; omega)
                    obtain ⟨go, co, t1, t2, t3, t4, tp⟩ := hob.spot o hlo (by rw [mat_rx hlo, lfn_len]; omega)
                    have el : (rx (mat f k) a).length = k := by rw [mat_rx hla, lfn_len]
                    have el2 : (rx (mat f k) o).length = k := by rw [mat_rx hlo, lfn_len]
                    rw [el] at s1 sp
                    rw [el2] at t1 tp
                    obtain ⟨d1, d2, d3⟩ := sp b hlb
                    have d4 := (sp o hlo).1
                    have d5 := (tp b hlb).1
                    rw [mat_ix hla hlb] at d1
                    rw [mat_ix hla hlo] at d4
                    rw [mat_ix hlo hlb] at d5
                    have D6 : Hid (∀ v, v = max (f a b) (min (f a o) (f o b)) → OwnR (wr.setCell ⟨ga, b, none⟩ (.int .i64 v)).drew w1.heap.size (wr.setCell ⟨ga, b, none⟩ (.int .i64 v)).drew.heap.size (.slice (some ⟨g, 0, none⟩) k cg) (mat (fwB f0 o a (b + 1)) k) ∧
                        Below w1.heap.size w1 (wr.setCell ⟨ga, b, none⟩ (.int .i64 v)).drew) := fun v hv => by
                      obtain ⟨d6, d7⟩ := d3 v
                      rw [mat_set _ hla hlb, hv, ← HS2.out, ← hv] at d6
                      have e : (wr.setCell ⟨ga, b, none⟩ (.int .i64 v)).drew.heap.size = wr.heap.size := World.size_setCell _ _ _
                      rw [e]
                      exact ⟨d6, (hbb.trans (d7.toBelow s2 hbb.size)).drew⟩
                    generalize f a b = X at *
                    generalize f a o = Y at *
                    generalize f o b = Z at *
                    have i1 : (a : Int) < (k : Int) := by omega
                    have i2 : (b : Int) < (k : Int) := by omega
                    have i3 : (o : Int) < (k : Int) := by omega
                    clear sp tp d3 el el2 HS2
                    go_upto_region 25 with fail
                    go_still_tail 29, (by kernel_rfl)
                    change wpList _ _ _ _ _ wr.drew
                    have d8 : wr.drew.frozen? _ = _ := d2
                    clear d2 d4 d5 s1 t1 e1
                    go_wp2
                    all_goals
                      go_roundw
                      case rel =>
                        refine ⟨b + 1, by omega, by go_num, ?_⟩
                        refine D6.out _ ?_
                        omega
                      case measure => simp [intOf]; omega
                · obtain rfl : b = k := by omega
                  rw [← HA.out] at hob
                  go_wp2
                  go_roundw
                  case rel => exact ⟨a + 1, by omega, by go_num, hob, hbb⟩
                  case measure => simp [intOf]; omega
            · obtain rfl : a = k := by omega
              have hoa2 : OwnR w4 w1.heap.size w4.heap.size (.slice (some ⟨g, 0, none⟩) a cg) (mat (fwO (strI vs) a (o + 1)) a) := hoa
              clear hoa
              go_wp2
              go_roundw
              case rel => exact ⟨o + 1, by omega, by go_num, hoa2, hba⟩
              case measure => simp [intOf]; omega
        · obtain rfl : o = k := by omega
          have hB5 := hB.trans (hbo.mono hB.size)
          have z5 := hB.size
          go_wp2
          go_ret
          exact ⟨_, _, rfl, hoo.mono z5 (Nat.le_refl _), hB5⟩
/-- a's strength towards each of the first j is not less than theirs towards a -/
def schN (s : Nat → Nat → Int) (a : Nat) (j : Nat) : Bool := allN (fun b => schulF s (a : Int) (b : Int)) j
def schTo (s : Nat → Nat → Int) (M : Nat) : Nat → List Int
  | 0 => []
  | k + 1 => schTo s M k ++ (if schN s k M then [(k : Int)] else [])
theorem schN_those (s : Nat → Nat → Int) (M a : Nat) : schN s a M = allN (fun b => (a == b) || schulF s (a : Int) (b : Int)) M := by
  unfold schN
  rw [Bool.eq_iff_iff, allN_iff, allN_iff]
  constructor
  · intro h b hb; rw [h b hb]; simp
  · intro h b hb
    have := h b hb
    rw [Bool.or_eq_true, beq_iff_eq] at this
    rcases this with rfl | this
    · unfold schulF; simp
    · exact this
theorem schTo_those (s : Nat → Nat → Int) (M : Nat) : ∀ k, schTo s M k = thoseTo M (schulF s) k
  | 0 => rfl
  | k + 1 => by rw [schTo, thoseTo, schTo_those s M k, schN_those]
set_option maxRecDepth 100000 in
set_option maxHeartbeats 2000000 in
theorem specSchulze (m : Int) (A : Option Addr) (n c : Nat) (vs : List Vt) (w : World) (h : VotesAt w A n vs) (hn : n ≤ 1048576) (hx : ∀ v ∈ vs, v.r.length ≤ 1048576) :
    Calls Tryz.prog 141 #[.agg #[.int .i64 m, .slice A n c]] w fun e w' => ∃ A' c', e = .returned (.slice A' (schulzeR m vs).length c') ∧ OwnI w' w.heap.size w'.heap.size (.slice A' (schulzeR m vs).length c') (schulzeR m vs) ∧ Below w.heap.size w w' := by
  obtain rfl := h.len
  have hB := alloc_below w (.cells #[.int .i64 m, .slice A vs.length c] 24)
  obtain ⟨x0, x1⟩ := PBox.new w m A vs.length c 24 rfl
  replace h := h.below hB
  generalize hw0 : w.alloc (.cells #[.int .i64 m, .slice A vs.length c] 24) = w0 at *
  have K := Lib.hid (specProfileOk m A vs.length c vs _ h hn hx)
  have KS := Lib.hid (fun W hW => specPathStrengths m A vs.length c vs W hW hn hx)
  unfold schulzeR thoseR thoseP
  unfold strengthR at KS
  clear hx
  cases hp : profOk m vs
  · rw [hp] at K
    simp only [Bool.false_eq_true, if_false, List.length_nil]
    clear KS
    go_enter Tryz.func141, Tryz.ntmps141
    go_wp2_with fail
    (with_reducible refine (K.out).mono ?_)
    rintro e w1 ⟨rfl, b1⟩
    replace hB := hB.trans (b1.mono hB.size)
    clear b1
    go_wp2
    go_ret
    exact ⟨_, _, rfl, OwnI.nil _ _ _, hB⟩
  rw [hp] at K
  rw [hp] at KS
  simp only [if_true] at KS ⊢
  have F := Lib.hid (pf_of hp)
  obtain ⟨M, rfl⟩ : ∃ M : Nat, m = (M : Int) := ⟨m.toNat, by have := F.out.m1; omega⟩
  have M5 : M ≤ 5 := by have := F.out.m5; omega
  have M1 : 1 ≤ M := by have := F.out.m1; omega
  rw [Int.toNat_natCast] at KS ⊢
  rw [mat_len] at KS
  rw [← schTo_those]
  generalize strength vs M = s at *
  obtain ⟨T, hT⟩ : ∃ T, schTo s M M = T := ⟨_, rfl⟩
  rw [hT]
  have HT := Lib.hid hT
  clear hT hp F
  go_enter Tryz.func141, Tryz.ntmps141
  go_wp2_with fail
  (with_reducible refine (K.out).mono ?_)
  rintro e w1 ⟨rfl, b1⟩
  replace x0 := cell_carry b1 x0
  replace x1 := cell_carry b1 x1
  replace h := h.below b1
  replace hB := hB.trans (b1.mono hB.size)
  clear b1
  clear K hw0
  go_wp2_with fail
  (with_reducible refine (KS.out _ h).mono ?_)
  rintro e w2 ⟨A2, c2, rfl, o2, b2⟩
  obtain ⟨g, rfl, gl, gh⟩ := o2.head (by omega)
  replace hB := hB.trans (b2.mono hB.size)
  clear b2 KS x0 x1 h
  have b3 := alloc_below w2 (.cells #[] 3)
  have o3 := OwnI.empty w2 (lo := w2.heap.size) (hi := (w2.alloc (.cells #[] 3)).heap.size) (Nat.le_refl _) (by simp)
  go_wp2
  go_loopw [4, 5, 16] (fun v _ i wr => ∃ (k : Nat) (A' : Option Addr) (c' : Nat), k ≤ M ∧ i = .int .i64 k ∧ v = .slice A' (schTo s M k).length c' ∧ OwnI wr w2.heap.size wr.heap.size (.slice A' (schTo s M k).length c') (schTo s M k) ∧ Below w2.heap.size w2 wr) (fun _ _ i _ => M - (intOf i).toNat)
  case atStart => exact ⟨0, _, 0, Nat.zero_le _, rfl, rfl, o3, b3⟩
  case round =>
    clear o3 b3
    obtain ⟨wo, rfl⟩ : ∃ wo, wo = wr := ⟨_, rfl⟩
    obtain ⟨k, A1, c1, hk, rfl, rfl, ho, hb⟩ := hrel
    have z2 := hb.size
    by_cases hlt : k < M
    · go_wp2
      go_loopw [6, 7, 21] (fun v _ i wr => ∃ j : Nat, j ≤ M ∧ i = .int .i64 j ∧ v = .bool (schN s k j) ∧ Below wo.heap.size wo wr) (fun _ _ i _ => M - (intOf i).toNat)
      case atStart => exact ⟨0, Nat.zero_le _, rfl, rfl, Below.refl _ _⟩
      case round =>
        obtain ⟨j, hj, rfl, rfl, hbj⟩ := hrel
        by_cases hlj : j < M
        · have HS : Hid (schN s k (j + 1) = (schN s k j && decide (s j k ≤ s k j))) := by show _ = _; unfold schN schulF; rw [allN, Int.toNat_natCast, Int.toNat_natCast]
          have o2' := (o2.belowW (hb.trans (hbj.mono (by omega))))
          obtain ⟨ga, ca, s1, s2, s3, s4, sp⟩ := o2'.spot k hlt (by rw [mat_rx hlt, lfn_len]; omega)
          obtain ⟨go, co, t1, t2, t3, t4, tp⟩ := o2'.spot j hlj (by rw [mat_rx hlj, lfn_len]; omega)
          have el : (rx (mat s M) k).length = M := by rw [mat_rx hlt, lfn_len]
          have el2 : (rx (mat s M) j).length = M := by rw [mat_rx hlj, lfn_len]
          rw [el] at s1 sp
          rw [el2] at t1 tp
          have d1 := (sp j hlj).1
          have d2 := (tp k hlt).1
          rw [mat_ix hlt hlj] at d1
          rw [mat_ix hlj hlt] at d2
          generalize s k j = X at *
          generalize s j k = Y at *
          have i1 : (j : Int) < (M : Int) := by omega
          have i2 : (k : Int) < (M : Int) := by omega
          clear sp tp el el2 o2'
          generalize schN s k j = q at *
          cases q
          · rw [Bool.false_and] at HS
            go_upto_region 12 with fail
            go_region
            go_wp2
            go_roundw
            case rel => exact ⟨j + 1, by omega, by go_num, by rw [HS.out], by first | exact hbj | exact hbj.drew⟩
            case measure => simp [intOf]; omega
          · rw [Bool.true_and] at HS
            go_upto_region 12 with fail
            go_region
            go_wp2
            go_roundw
            case rel => exact ⟨j + 1, by omega, by go_num, by rw [HS.out], by first | exact hbj | exact hbj.drew⟩
            case measure => simp [intOf]; omega
        · obtain rfl : j = M := by omega
          have HS : Hid (schTo s j (k + 1) = schTo s j k ++ (if schN s k j then [(k : Int)] else [])) := rfl
          have hol := (ho.belowW hbj).mono (Nat.le_refl _) hbj.size
          have hbt := hb.trans (hbj.mono hb.size)
          have zt := hbt.size
          have LT := thoseTo_len j (schulF s) k
          rw [← schTo_those] at LT
          generalize schN s k j = q at *
          generalize schTo s j k = xs at *
          clear ho hbj
          cases q
          · rw [if_neg (by simp), List.append_nil] at HS
            go_wp2
            go_roundw
            case rel => exact ⟨k + 1, A1, c1, by omega, by go_num, by rw [HS.out], by rw [HS.out]; exact hol, hbt⟩
            case measure => simp [intOf]; omega
          · rw [if_pos rfl] at HS
            go_wp2_with (at_builtin; refine wpList_append_int _ rfl _ _ rfl w2.heap.size _ xs.length c1 A1 xs rfl (hol.alloc _) (k : Int) _ 1 rfl (new_cell _ _ _ rfl) (by omega) (by simp; omega) (by simp; omega) ?_)
            intro A3 c3 w3 ho3 hon
            have e5 : xs.length + 1 = (xs ++ [(k : Int)]).length := by simp
            rw [e5] at ho3 ⊢
            rw [← HS.out] at ho3 ⊢
            have hb3 := (hbt.alloc zt _).trans (hon.toBelow (Nat.le_refl _) (by simp; omega))
            clear hon hol
            go_wp2
            go_roundw
            case rel => exact ⟨k + 1, A3, c3, by omega, by go_num, rfl, ho3, hb3⟩
            case measure => simp [intOf]; omega
    · obtain rfl : k = M := by omega
      rw [HT.out] at ho ⊢
      have hB5 := hB.trans (hb.mono hB.size)
      have z5 := hB.size
      go_wp2
      go_ret
      exact ⟨_, _, rfl, ho.mono z5 (Nat.le_refl _), hB5⟩
end Go.Proofs.YtaanppihgldeaaaGreatDoor
