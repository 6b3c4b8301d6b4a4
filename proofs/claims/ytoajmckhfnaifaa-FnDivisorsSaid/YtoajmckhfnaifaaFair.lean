/- Seats that are fair by a divisor: no claim for one seat more is greater than one that has its seat. -/
import Derived.Test.YtoajmckhfnaifaaClaims
import Derived.Test.YtoajmckhfnaifaaKeeps
import Derived.IntWalk
namespace Go.Proofs.Ytoajmckhfnaifaa
set_option linter.unusedVariables false
open Go.RowKit

def fairPair (m : Int) (xs ys : List Int) (i k : Nat) : Bool := !(decide (i ≠ k) && decide (0 < ix ys k) && decide (0 < claimC m (ix xs i) (ix ys i) (ix xs k) (ix ys k - 1)))
def fairRow (m : Int) (xs ys : List Int) (i : Nat) : Bool := allN (fairPair m xs ys i) xs.length
def fairAll (m : Int) (xs ys : List Int) : Bool := allN (fairRow m xs ys) xs.length
def isFair (m : Int) (xs ys : List Int) : Bool := inB m 1 5 && seatsOk xs ys && fairAll m xs ys
theorem fair_no {m : Int} {xs ys : List Int} {i k : Nat} (hi : i < xs.length) (hk : k < xs.length) (h : fairPair m xs ys i k = false) : fairAll m xs ys = false := allN_false hi (allN_false hk h)
theorem pair_same {m : Int} {xs ys : List Int} {i k : Nat} (h : i = k) : fairPair m xs ys i k = true := by unfold fairPair; simp [h]
theorem pair_none {m : Int} {xs ys : List Int} {i k : Nat} (h : ix ys k ≤ 0) : fairPair m xs ys i k = true := by
  unfold fairPair
  have : ¬ 0 < ix ys k := by omega
  simp [this]
theorem pair_low {m : Int} {xs ys : List Int} {i k : Nat} (h : claimC m (ix xs i) (ix ys i) (ix xs k) (ix ys k - 1) ≤ 0) : fairPair m xs ys i k = true := by
  unfold fairPair
  have : ¬ 0 < claimC m (ix xs i) (ix ys i) (ix xs k) (ix ys k - 1) := by omega
  simp [this]
theorem pair_high {m : Int} {xs ys : List Int} {i k : Nat} (h0 : i ≠ k) (h1 : 0 < ix ys k) (h : 0 < claimC m (ix xs i) (ix ys i) (ix xs k) (ix ys k - 1)) : fairPair m xs ys i k = false := by
  unfold fairPair
  simp [h0, h1, h]
set_option maxRecDepth 100000 in
set_option maxHeartbeats 4000000 in
theorem implIsFairBy (m : Int) (A : Option Addr) (n c : Nat) (xs : List Int) (B : Option Addr) (l d : Nat) (ys : List Int) (w : World) (h : IntsAt w A n xs) (hn : n ≤ 1048576) (g : IntsAt w B l ys) (hl : l ≤ 1048576) :
    Calls Try.prog 9 #[.int .i64 m, .slice A n c, .slice B l d] w fun e w' => e = .returned (.bool (isFair m xs ys)) ∧ Below w.heap.size w w' := by
  obtain rfl := h.len
  obtain rfl := g.len
  unfold isFair
  cases hm : inB m 1 5
  · go_enter Try.func9, Try.ntmps9
    go_wp2_with (go_at_call 21; refine (within_any _ _ _ _).mono ?_; rintro e w' ⟨rfl, rfl⟩)
    go_ret
    exact ⟨rfl, Below.refl _ _⟩
  obtain ⟨m1, m5⟩ := inB_iff.1 hm
  cases hs : seatsOk xs ys
  · go_enter Try.func9, Try.ntmps9
    go_wp2_with (go_at_call 21; refine (within_any _ _ _ _).mono ?_; rintro e w' ⟨rfl, rfl⟩)
    (with_reducible refine (seatsAsked_any _ _ _ _ _ _ _ _ _ h hn g hl).mono ?_)
    rintro e w1 ⟨rfl, hb⟩
    rw [hs]
    go_wp2
    go_ret
    exact ⟨rfl, hb⟩
  obtain ⟨s1, s2, s3, s4, s5, s6⟩ := seatsOk_facts hs
  have HX := Lib.hid (countsOk_facts s1).2.2.1
  have HY := Lib.hid s4
  have HE := Lib.hid s2
  clear s1 s2 s3 s4
  go_enter Try.func9, Try.ntmps9
  go_wp2_with (go_at_call 21; refine (within_any _ _ _ _).mono ?_; rintro e w' ⟨rfl, rfl⟩)
  (with_reducible refine (seatsAsked_any _ _ _ _ _ _ _ _ _ h hn g hl).mono ?_)
  rintro e w1 ⟨rfl, hb1⟩
  rw [hs]
  go_wp2
  go_loopw [7, 8, 20, 25] (fun _ _ i _ wr => ∃ k : Nat, k ≤ xs.length ∧ i = .int .i64 k ∧ allN (fairRow m xs ys) k = true ∧ Below w.heap.size w wr) (fun _ _ i _ _ => xs.length - (intOf i).toNat)
  case atStart => exact ⟨0, Nat.zero_le _, rfl, rfl, hb1⟩
  case round =>
    obtain ⟨i, hi, rfl, hall, hbo⟩ := hrel
    have HA := Lib.hid hall
    clear hall
    obtain ⟨wo, rfl⟩ : ∃ wo, wo = wr := ⟨_, rfl⟩
    by_cases hlt : i < xs.length
    · obtain ⟨bx, ox, rfl, _, hcx⟩ := (h.below hbo).at_ hlt
      obtain ⟨by_, oy, rfl, _, hcy⟩ := (g.below hbo).at_ (show i < ys.length by have := HE.out; omega)
      have xi := hcx i hlt
      have yi := hcy i (show i < ys.length by have := HE.out; omega)
      have bxi := HX.out _ (ix_mem hlt)
      have byi := HY.out _ (ix_mem (show i < ys.length by have := HE.out; omega))
      clear yi hcx hcy
      go_wp2
      clear xi
      go_loopw [8, 25] (fun _ i_ wr => ∃ k : Nat, k ≤ xs.length ∧ i_ = .int .i64 k ∧ allN (fairPair m xs ys i) k = true ∧ Below w.heap.size w wr) (fun _ i_ _ => xs.length - (intOf i_).toNat)
      case atStart => exact ⟨0, Nat.zero_le _, rfl, rfl, hbo⟩
      case round =>
        obtain ⟨k, hk, rfl, hpa, hb⟩ := hrel
        have HP := Lib.hid hpa
        clear hpa
        have hzb := hb.size
        by_cases hkl : k < xs.length
        · obtain ⟨bx', ox', ex, _, hcx⟩ := (h.below hb).at_ hlt
          cases ex
          obtain ⟨by', oy', ey, _, hcy⟩ := (g.below hb).at_ (show i < ys.length by have := HE.out; omega)
          cases ey
          have xi := hcx i hlt
          have yi := hcy i (show i < ys.length by have := HE.out; omega)
          have xk := hcx k hkl
          have yk := hcy k (show k < ys.length by have := HE.out; omega)
          clear hcx hcy
          have bxk := HX.out _ (ix_mem hkl)
          have byk := HY.out _ (ix_mem (show k < ys.length by have := HE.out; omega))
          have i1 : (0 : Int) ≤ (i : Int) := by omega
          have i2 : (i : Int) < (xs.length : Int) := by omega
          have i3 : (i : Int) < (ys.length : Int) := by have := HE.out; omega
          have k1 : (0 : Int) ≤ (k : Int) := by omega
          have k2 : (k : Int) < (xs.length : Int) := by omega
          have k3 : (k : Int) < (ys.length : Int) := by have := HE.out; omega
          have q0 : ∀ L : Later wr, L.W.cell? ⟨bx, ox + i, none⟩ = some (.int .i64 (ix xs i)) := fun L => L.cell xi
          have q1 : ∀ L : Later wr, L.W.cell? ⟨by_, oy + i, none⟩ = some (.int .i64 (ix ys i)) := fun L => L.cell yi
          have q2 : ∀ L : Later wr, L.W.cell? ⟨bx, ox + k, none⟩ = some (.int .i64 (ix xs k)) := fun L => L.cell xk
          have q3 : ∀ L : Later wr, L.W.cell? ⟨by_, oy + k, none⟩ = some (.int .i64 (ix ys k)) := fun L => L.cell yk
          clear xi yi xk yk
          by_cases hik : i = k
          · have HN := Lib.hid (allN_step HP.out (pair_same (m := m) (xs := xs) (ys := ys) hik))
            have e1 : ((i : Int) != (k : Int)) = false := by rw [bne_eq_false_iff_eq]; omega
            clear hik
            go_wp2
            refine wp_region_later (by kernel_rfl) (by kernel_rfl) ?_
            repeat (go_big_quiet_step (fail))
            (refine wpQuiet_nil ?_; rintro _ ⟨⟨wl, hbl⟩, rfl⟩)
            go_wp2
            go_roundw
            case rel => exact ⟨k + 1, by omega, by go_num, HN.out, hb.trans (hbl.mono hzb)⟩
            case measure => simp [intOf]; omega
          have e1 : ((i : Int) != (k : Int)) = true := by rw [bne_iff_ne]; omega
          by_cases hy0 : 0 < ix ys k
          · have ew : IntKind.i64.wrap (ix ys k - 1) = ix ys k - 1 := IntWalk.i64_in _ (by omega)
            have W := Lib.hid ew
            clear ew
            have d1 : decide (0 < ix ys k) = true := decide_eq_true hy0
            obtain ⟨r, hr⟩ : ∃ r, claimC m (ix xs i) (ix ys i) (ix xs k) (ix ys k - 1) = r := ⟨_, rfl⟩
            have K1 : Hid (∀ L : Later wr, Calls Try.prog 23 #[.int .i64 m, .int .i64 (ix xs i), .int .i64 (ix ys i), .int .i64 (ix xs k), .int .i64 (IntKind.i64.wrap (ix ys k - 1))] L.W fun e W' => e = .returned (.int .i64 r) ∧ ∃ L' : Later wr, W' = L'.W) := fun L => L.call (by
              rw [W.out]
              exact (compareClaims_any m _ _ _ _ L.W m1 m5 bxi.1 bxi.2 byi.1 (by omega) bxk.1 bxk.2 (by omega) (by omega)).mono fun _ _ ⟨he, hw⟩ => ⟨by rw [he, hr], hw⟩)
            have K2 : Hid (∀ L : Later wr, Calls Try.prog 23 #[.int .i64 m, .int .i64 (ix xs i), .int .i64 (ix ys i), .int .i64 (ix xs k), .int .i64 (ix ys k - 1)] L.W fun e W' => e = .returned (.int .i64 r) ∧ ∃ L' : Later wr, W' = L'.W) := by have := K1; rw [W.out] at this; exact this
            by_cases hr0 : 0 < r
            · have HF := Lib.hid (fair_no hlt hkl (pair_high hik hy0 (by rw [hr]; exact hr0)))
              have hrr := Lib.hid hr
              clear hr hik
              go_wp2
              refine wp_region_later (by kernel_rfl) (by kernel_rfl) ?_
              repeat (go_big_quiet_step ((first | (with_reducible exact K1.out _) | (with_reducible exact K2.out _))))
              (refine wpQuiet_nil ?_; rintro _ ⟨⟨wl, hbl⟩, rfl⟩)
              go_wp2
              go_ret
              exact ⟨ret_b (by rw [HF.out]; rfl), hb.trans (hbl.mono hzb)⟩
            · have HN := Lib.hid (allN_step HP.out (pair_low (by rw [hr]; omega)))
              have hr1 : r ≤ 0 := by omega
              have hrr := Lib.hid hr
              clear hr hik hr0
              go_wp2
              refine wp_region_later (by kernel_rfl) (by kernel_rfl) ?_
              repeat (go_big_quiet_step ((first | (with_reducible exact K1.out _) | (with_reducible exact K2.out _))))
              (refine wpQuiet_nil ?_; rintro _ ⟨⟨wl, hbl⟩, rfl⟩)
              go_wp2
              go_roundw
              case rel => exact ⟨k + 1, by omega, by go_num, HN.out, hb.trans (hbl.mono hzb)⟩
              case measure => simp [intOf]; omega
          · have HN := Lib.hid (allN_step HP.out (pair_none (m := m) (xs := xs) (i := i) (k := k) (by omega)))
            have d1 : decide (0 < ix ys k) = false := decide_eq_false hy0
            clear hik
            go_wp2
            refine wp_region_later (by kernel_rfl) (by kernel_rfl) ?_
            repeat (go_big_quiet_step (fail))
            (refine wpQuiet_nil ?_; rintro _ ⟨⟨wl, hbl⟩, rfl⟩)
            go_wp2
            go_roundw
            case rel => exact ⟨k + 1, by omega, by go_num, HN.out, hb.trans (hbl.mono hzb)⟩
            case measure => simp [intOf]; omega
        · obtain rfl : k = xs.length := by omega
          have HN := Lib.hid (allN_step HA.out HP.out)
          go_wp2
          go_roundw
          case rel => exact ⟨i + 1, by omega, by go_num, HN.out, hb⟩
          case measure => simp [intOf]; omega
    · obtain rfl : i = xs.length := by omega
      go_wp2
      go_ret
      exact ⟨ret_b (by show true = (true && true && fairAll m xs ys); have := HA.out; unfold fairAll; rw [this]; rfl), hbo⟩
end Go.Proofs.Ytoajmckhfnaifaa
