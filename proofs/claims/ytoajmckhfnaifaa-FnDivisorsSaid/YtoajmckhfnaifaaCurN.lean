/- Draws of counts and of numbers: spec.l01Once, MakeNum, l13Draw, MakeCounts; the law's count. -/
import Derived.Test.YtoajmckhfnaifaaCurD
import Derived.Test.YtoajmckhfnaifaaQuotas
import Derived.Test.YtoajmckhfnaifaaCounts
namespace Go.Proofs.Ytoajmckhfnaifaa
set_option linter.unusedVariables false
open Go.RowKit
attribute [local go_sem ↓] Go.wp_at_zero Go.wp_at_succ

theorem l01Once_any (K : Int) (k : Nat) (hK : K = k) (hk : 1 ≤ k) (hk2 : k ≤ 256) (p : Nat) (A : Option Addr) (n c : Nat) (w : World) (H : CurIn w p A n c) (hn : n ≤ 1048576) :
    Calls Try.prog 34 #[.pointer (some ⟨p, 0, none⟩), .int .i64 K] w fun e w' => ∃ b : Bool, e = .returned (.bool b) ∧ CurIn w' p A n c ∧ Only p (p + 1) w w' := by
  subst hK
  go_enter Try.func34, Try.ntmps34
  go_wp2_with fail
  (with_reducible refine (l01Below_any (k : Int) k rfl hk hk2 p A n c _ H hn).mono ?_)
  rintro e w1 ⟨x, rfl, hx, H1, O1⟩
  go_wp2_with fail
  go_ret
  exact ⟨_, rfl, H1, O1⟩
theorem makeNum_any (M : Int) (m : Nat) (hM : M = m) (hm : m ≤ 1048576) (A : Option Addr) (n c : Nat) (w : World) (hb : BytesAt w w.heap.size A n) (hn : n ≤ 1048576) :
    Calls Try.prog 5 #[.slice A n c, .int .i64 M] w fun e w' => ∃ x : Nat, e = .returned (.int .i64 x) ∧ x ≤ 65535 ∧ Below w.heap.size w w' := by
  subst hM
  go_enter Try.func5, Try.ntmps5
  go_wp2_with fail
  (with_reducible refine (l32New_any (m : Int) m rfl A n c _ hb hn hm).mono ?_)
  rintro e w1 ⟨p, rfl, hp, H1, b1⟩
  go_wp2_with fail
  (with_reducible refine (l01Byte_any p A n c _ H1 hn).mono ?_)
  rintro e w2 ⟨x, rfl, hx0, hx1, H2, O2⟩
  go_wp2_with fail
  (with_reducible refine (l01Byte_any p A n c _ H2 hn).mono ?_)
  rintro e w3 ⟨y, rfl, hy0, hy1, H3, O3⟩
  obtain ⟨x, rfl⟩ : ∃ a : Nat, x = a := ⟨x.toNat, by omega⟩
  obtain ⟨y, rfl⟩ : ∃ a : Nat, y = a := ⟨y.toNat, by omega⟩
  go_wp2_with fail
  go_ret
  exact ⟨x * 256 + y, by simp, by omega, b1.trans ((O2.trans O3).toBelow hp b1.size)⟩
/-- how many of the first j entries are v -/
def cntV (xs : List Int) (v : Int) : Nat → Int
  | 0 => 0
  | j + 1 => if ix xs j = v then cntV xs v j + 1 else cntV xs v j
theorem cntV_bd (xs : List Int) (v : Int) : ∀ j, 0 ≤ cntV xs v j ∧ cntV xs v j ≤ j
  | 0 => by simp [cntV]
  | j + 1 => by have := cntV_bd xs v j; unfold cntV; split <;> omega
theorem count_any (A : Option Addr) (n c : Nat) (xs : List Int) (v : Int) (w : World) (h : IntsAt w A n xs) (hn : n ≤ 1048576) :
    Calls Try.prog 10 #[.slice A n c, .int .i64 v] w fun e w' => e = .returned (.int .i64 (cntV xs v xs.length)) ∧ w' = w := by
  obtain rfl := h.len
  go_enter Try.func10, Try.ntmps10
  go_wp2
  go_loop [5, 7, 10] (fun s _ i => ∃ k : Nat, k ≤ xs.length ∧ i = .int .i64 k ∧ s = .int .i64 (cntV xs v k)) (fun _ _ i => xs.length - (intOf i).toNat)
  case atStart => exact ⟨0, Nat.zero_le _, rfl, rfl⟩
  case round =>
    obtain ⟨k, hk, rfl, rfl⟩ := hrel
    by_cases hlt : k < xs.length
    · obtain ⟨b, o, rfl, _, hc⟩ := h.at_ hlt
      have hck := hc k hlt
      clear hc
      have hb := cntV_bd xs v k
      by_cases e : ix xs k = v
      · have hs : cntV xs v (k + 1) = cntV xs v k + 1 := by rw [cntV, if_pos e]
        have HS := Lib.hid hs
        rw [e] at hck
        clear hs e
        go_wp2
        go_round
        case rel => exact ⟨k + 1, by omega, by go_num, by rw [HS.out]⟩
        case measure => simp [intOf]; omega
      · have hs : cntV xs v (k + 1) = cntV xs v k := by rw [cntV, if_neg e]
        have HS := Lib.hid hs
        clear hs
        go_wp2
        go_round
        case rel => exact ⟨k + 1, by omega, by go_num, by rw [HS.out]⟩
        case measure => simp [intOf]; omega
    · obtain rfl : k = xs.length := by omega
      go_wp2
      go_ret
      exact ⟨rfl, rfl⟩
theorem countsOk_of {l : List Int} (l1 : 1 ≤ l.length) (l5 : l.length ≤ 5) (hE : ∀ x ∈ l, 0 ≤ x ∧ x ≤ 10000) (hz : lsum l ≠ 0) : countsOk l = true := by
  have := (lsum_bd l 10000 hE).1
  unfold countsOk
  rw [Bool.and_eq_true, Bool.and_eq_true, inB_iff, List.all_eq_true, decide_eq_true_eq]
  exact ⟨⟨⟨by omega, by omega⟩, fun x hx => inB_iff.2 (by have := hE x hx; omega)⟩, by omega⟩
set_option maxHeartbeats 1000000 in
theorem l13Draw_any (p : Nat) (A : Option Addr) (n c : Nat) (w : World) (H : CurIn w p A n c) (hn : n ≤ 1048576) :
    Calls Try.prog 18 #[.pointer (some ⟨p, 0, none⟩)] w fun e w' => ∃ (A' : Option Addr) (c' : Nat) (l : List Int), e = .returned (.slice A' l.length c') ∧
      OwnI w' w.heap.size w'.heap.size (.slice A' l.length c') l ∧ countsOk l = true ∧ l.length ≤ 5 ∧ Only p (p + 1) w w' := by
  have hp := H.lt
  go_enter Try.func18, Try.ntmps18
  go_wp2_with fail
  (with_reducible refine (l01Below_any 5 5 rfl (by decide) (by decide) p A n c _ (H.below ((Below.refl _ _).alloc (Nat.le_refl _) _)) hn).mono ?_)
  rintro e w1 ⟨x1, rfl, hx1, H1, O1⟩
  have E1 : OwnI (w.alloc (.cells #[] 3)) w.heap.size (w.heap.size + 1) (.slice (some ⟨w.heap.size, 0, none⟩) 0 0) [] := OwnI.empty w (Nat.le_refl _) (by omega)
  have s1 := O1.size
  rw [World.size_alloc] at s1
  have E2 := (E1.only O1 (.inr (by omega))).mono (hi' := w1.heap.size) (Nat.le_refl _) (by omega)
  have O : Only p (p + 1) w w1 := (OnlyC.alloc (Only.refl p (p + 1) w) _).trans O1
  clear O1 E1 s1 H
  go_wp2_with fail
  go_loopw [3, 4, 5] (fun v i _ wr => ∃ (l : List Int) (A' : Option Addr) (c' : Nat), l.length ≤ 1 + x1 ∧ i = .int .i64 (1 + x1 - l.length : Int) ∧ v = .slice A' l.length c' ∧ OwnI wr w.heap.size wr.heap.size (.slice A' l.length c') l ∧ (∀ x ∈ l, 0 ≤ x ∧ x ≤ 10000) ∧ CurIn wr p A n c ∧ Only p (p + 1) w wr)
    (fun _ i _ _ => (intOf i).toNat)
  case atStart => exact ⟨[], _, 0, Nat.zero_le _, by simp, rfl, E2, (fun x hx => by cases hx), H1, O⟩
  case round =>
    obtain ⟨l, A1, c1, hl, rfl, rfl, hown, hE, HC, HO⟩ := hrel
    clear H1 O E2
    have so := HO.size
    by_cases hlt : l.length < 1 + x1
    · have t1 : (0 : Int) < 1 + x1 - l.length := by omega
      go_wp2_with fail
      (with_reducible refine (l01Below_any 60 60 rfl (by decide) (by decide) p A n c _ HC hn).mono ?_)
      rintro e w2 ⟨x, rfl, hx, H2, O2⟩
      go_wp2_with fail
      (with_reducible refine (l01Once_any 4 4 rfl (by decide) (by decide) p A n c _ H2 hn).mono ?_)
      rintro e w3 ⟨b, rfl, H3, O3⟩
      have hown3 := (hown.only (O2.trans O3) (.inr (by omega))).mono (hi' := w3.heap.size) (Nat.le_refl _) (O2.trans O3).size
      have HO3 := HO.trans (O2.trans O3)
      clear hown H2 HC O2 O3 HO so
      cases b
      case false =>
        go_upto_region 8 with fail
        have hl8 : l.length ≤ 5 := by omega
        go_wp2_with (at_builtin; refine wpList_append_int _ rfl _ _ rfl w.heap.size _ l.length _ _ _ rfl (hown3.alloc _) ((x : Int)) _ 1 rfl (new_cell _ _ _ rfl) (by omega) (by have := HO3.size; simp; omega) (by simp; omega) ?_)
        intro A5 c5 w5 ho5 hon
        have HO5 : Only p (p + 1) w w5 := OnlyC.more (OnlyC.alloc HO3 _) hon (Nat.le_refl _)
        have H5 : CurIn w5 p A n c := CurIn.above (H3.below ((Below.refl _ _).alloc (Nat.le_refl _) _)) hon hp
        clear hon hown3 HO3 H3
        go_wp2_with fail
        go_roundw
        case rel => exact ⟨l ++ [(x : Int)], A5, c5, by simp; omega, by simp; omega, by simp, by simpa using ho5, (fun q hq => by rw [List.mem_append, List.mem_singleton] at hq; rcases hq with hq | rfl; (exact hE q hq); omega), H5, HO5⟩
        case measure => simp [intOf]; omega
      case true =>
        go_wp2_with fail
        (with_reducible refine (l01Below_any 50 50 rfl (by decide) (by decide) p A n c _ H3 hn).mono ?_)
        rintro e w4 ⟨y, rfl, hy, H4, O4⟩
        replace hown3 := (hown3.only O4 (.inr (by omega))).mono (hi' := w4.heap.size) (Nat.le_refl _) O4.size
        replace HO3 := HO3.trans O4
        clear H3 O4
        have H3 := H4
        clear H4
        go_upto_region 8 with fail
        have hl8 : l.length ≤ 5 := by omega
        go_wp2_with (at_builtin; refine wpList_append_int _ rfl _ _ rfl w.heap.size _ l.length _ _ _ rfl (hown3.alloc _) ((x : Int) * 97 + y) _ 1 rfl (new_cell _ _ _ rfl) (by omega) (by have := HO3.size; simp; omega) (by simp; omega) ?_)
        intro A5 c5 w5 ho5 hon
        have HO5 : Only p (p + 1) w w5 := OnlyC.more (OnlyC.alloc HO3 _) hon (Nat.le_refl _)
        have H5 : CurIn w5 p A n c := CurIn.above (H3.below ((Below.refl _ _).alloc (Nat.le_refl _) _)) hon hp
        clear hon hown3 HO3 H3
        go_wp2_with fail
        go_roundw
        case rel => exact ⟨l ++ [(x : Int) * 97 + y], A5, c5, by simp; omega, by simp; omega, by simp, by simpa using ho5, (fun q hq => by rw [List.mem_append, List.mem_singleton] at hq; rcases hq with hq | rfl; (exact hE q hq); omega), H5, HO5⟩
        case measure => simp [intOf]; omega
    · have hll : l.length = 1 + x1 := by omega
      have t1 : ¬ (0 : Int) < 1 + x1 - l.length := by omega
      have HLL := Lib.hid hll
      have l1 : 1 ≤ l.length := by omega
      have l5 : l.length ≤ 5 := by omega
      have EH := Lib.hid hE
      clear hll hl hE
      go_wp2_with fail
      (with_reducible refine (l13Sum_any _ _ _ _ _ hown.at_ (by omega) (fun x hx => by have := EH.out x hx; omega)).mono ?_)
      rintro e w6 ⟨rfl, rfl⟩
      by_cases hz : lsum l = 0
      · obtain ⟨g, rfl, hg1, hg2⟩ := hown.head (by omega)
        have hd := hown.cellAt 0 (by omega)
        have hf := hown.frozenAt 0
        have hst := hown.stored 0 7
        have sl : (l.set 0 7).length = l.length := by simp
        have bd : ∀ x ∈ l.set 0 7, (0 : Int) ≤ x ∧ x ≤ 10000 := fun x hx => by
          rcases List.mem_or_eq_of_mem_set hx with h | rfl
          · exact EH.out x h
          · omega
        have nz : lsum (l.set 0 7) ≠ 0 := by
          cases l with
          | nil => simp at l1
          | cons a r =>
            have := (lsum_bd r 10000 fun x hx => EH.out x (by simp [hx])).1
            simp only [List.set_cons_zero, lsum]; omega
        have hc := countsOk_of (l := l.set 0 7) (by omega) (by omega) bd nz
        have HS := Lib.hid sl
        have HO7 : Only p (p + 1) w (wr.setCell ⟨g, 0, none⟩ (.int .i64 7)) := OnlyC.more HO hst.2 hg1
        have HH := Lib.hid hst.1
        clear sl nz bd hst HO hown
        go_wp2
        go_ret
        exact ⟨some ⟨g, 0, none⟩, c1, l.set 0 7, by rw [HS.out]; rfl, by rw [HS.out]; exact HH.out.mono (Nat.le_refl _) (by simp [World.setCell]), hc, by rw [HS.out]; exact l5, HO7⟩
      · go_wp2_with fail
        go_ret
        exact ⟨_, _, l, rfl, hown, countsOk_of l1 l5 EH.out hz, l5, HO⟩
theorem makeCounts_any (A : Option Addr) (n c : Nat) (w : World) (hb : BytesAt w w.heap.size A n) (hn : n ≤ 1048576) :
    Calls Try.prog 4 #[.slice A n c, .int .i64 0] w fun e w' => ∃ (A' : Option Addr) (c' lo : Nat) (l : List Int), e = .returned (.slice A' l.length c') ∧
      OwnI w' lo w'.heap.size (.slice A' l.length c') l ∧ countsOk l = true ∧ l.length ≤ 5 ∧ Below w.heap.size w w' := by
  go_enter Try.func4, Try.ntmps4
  go_wp2_with fail
  (with_reducible refine (l32New_any 0 0 rfl A n c _ hb hn (by decide)).mono ?_)
  rintro e w1 ⟨p, rfl, hp, H1, b1⟩
  go_wp2_with fail
  (with_reducible refine (l13Draw_any p A n c _ H1 hn).mono ?_)
  rintro e w2 ⟨A', c', l, rfl, ho, hc, hl, O⟩
  go_wp2_with fail
  go_ret
  exact ⟨_, _, _, l, rfl, ho, hc, hl, b1.trans (O.toBelow hp b1.size)⟩
end Go.Proofs.Ytoajmckhfnaifaa
