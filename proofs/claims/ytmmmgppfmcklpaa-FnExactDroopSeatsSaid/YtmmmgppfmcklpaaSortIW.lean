/- The library's stable sort of few numbers, by what is left of each. -/
import Derived.Test.YtmmmgppfmcklpaaSortI
namespace Go.Proofs.Ytmmmgppfmcklpaa
set_option linter.unusedVariables false
open Go.RowKit

theorem only_drewN {lo hi : Nat} (w : World) (m : Nat) : Only lo hi w (w.drewN m) := Only.of_below (B := w.heap.size) (below_of_drewN rfl) (Nat.le_refl _)
/-- what the comparison reads: the slice of what is left, in a cell -/
structure RestAt (w : World) (gb : Nat) (B : Option Addr) (l d : Nat) (rs : List Int) : Prop where
  c0 : w.cell? ⟨gb, 0, none⟩ = some (.slice B l d)
  r : IntsAt w B l rs
theorem RestAt.only {w w' : World} {gb l d g : Nat} {B : Option Addr} {rs : List Int} (h : RestAt w gb B l d rs) (ho : Only g (g + 1) w w') (h1 : gb ≠ g) (h2 : ∀ a, B = some a → 0 < l → a.block ≠ g) : RestAt w' gb B l d rs := by
  refine ⟨ho.cell h.c0 (by show ¬ (g ≤ gb ∧ gb < g + 1); omega), h.r.1, fun hn => ?_⟩
  obtain ⟨b, o, e, hc⟩ := h.r.2 hn
  have := h2 _ e hn
  simp at this
  exact ⟨b, o, e, fun j hj => ho.cell (hc j hj) (by simp; omega)⟩
theorem RestAt.drewN {w : World} {gb l d : Nat} {B : Option Addr} {rs : List Int} (h : RestAt w gb B l d rs) (m : Nat) : RestAt (w.drewN m) gb B l d rs := ⟨h.c0, h.r⟩
set_option maxHeartbeats 800000 in
theorem filledCmp_any (a b : Nat) {gb l d : Nat} {B : Option Addr} {rs : List Int} (w : World) (K : RestAt w gb B l d rs) (ha : a < l) (hb : b < l) (hr : ∀ i, i < l → 0 ≤ ix rs i ∧ ix rs i ≤ 1000000000) :
    Calls Try.prog 37 #[.int .i64 (a : Int), .int .i64 (b : Int), .pointer (some ⟨gb, 0, none⟩)] w fun e w' => e = .returned (.int .i64 (rv rs b - rv rs a)) ∧ ∃ q, w' = w.drewN q := by
  obtain ⟨c0, r⟩ := K
  obtain ⟨bo, oo, rfl, _, hc⟩ := r.at_ ha
  have ca := hc a ha
  have cb := hc b hb
  have ba := hr a ha
  have bb := hr b hb
  have e1 : rv rs (a : Int) = ix rs a := by unfold rv; simp
  have e2 : rv rs (b : Int) = ix rs b := by unfold rv; simp
  rw [e1, e2]
  clear hc r hr e1 e2
  have a1 : (0 : Int) ≤ (a : Int) := by omega
  have a2 : (a : Int) < (l : Int) := by omega
  have b1 : (0 : Int) ≤ (b : Int) := by omega
  have b2 : (b : Int) < (l : Int) := by omega
  generalize ix rs a = x at *
  generalize ix rs b = y at *
  go_enter Try.func37, Try.ntmps37
  go_wp2
  go_quiet (fail)
  go_wp2
  go_ret
  exact ⟨rfl, _, rfl⟩
set_option maxRecDepth 100000 in
set_option maxHeartbeats 2000000 in
theorem insertion_any (g c n lo hi : Nat) {gb l d : Nat} {B : Option Addr} {rs : List Int} (w : World) (ho : OwnI w lo hi (.slice (some ⟨g, 0, none⟩) n c) (upE n)) (K : RestAt w gb B l d rs) (h1 : gb ≠ g) (h2 : ∀ a, B = some a → 0 < l → a.block ≠ g)
    (hn : 1 ≤ n) (hn6 : n ≤ 6) (hl : n ≤ l) (hr : ∀ i, i < l → 0 ≤ ix rs i ∧ ix rs i ≤ 1000000000) :
    Calls Try.prog 56 #[.slice (some ⟨g, 0, none⟩) n c, .int .i64 0, .int .i64 (n : Int), .func (.func 37) #[] #[.pointer (some ⟨gb, 0, none⟩)]] w fun e w' =>
      (∃ v, e = .returned v) ∧ OwnI w' lo hi (.slice (some ⟨g, 0, none⟩) n c) (sortS rs n) ∧ Only g (g + 1) w w' := by
  have HR := Lib.hid hr
  have H2 := Lib.hid h2
  clear hr h2
  go_enter Try.func56, Try.ntmps56
  go_wp2
  go_loopw [8, 9] (fun i_ _ wr => ∃ i : Nat, 1 ≤ i ∧ i ≤ n ∧ i_ = .int .i64 i ∧ OwnI wr lo hi (.slice (some ⟨g, 0, none⟩) n c) (sortS rs i ++ tailE n i) ∧ Only g (g + 1) w wr) (fun i_ _ _ => n - (intOf i_).toNat)
  case atStart => exact ⟨1, by omega, by omega, rfl, by rw [show sortS rs 1 ++ tailE n 1 = upE n from by have := tailE_step (n := n) (k := 0) (by omega); unfold tailE at this ⊢; rw [List.drop_zero] at this; rw [this]; rfl]; exact ho, Only.refl _ _ _⟩
  case round =>
    obtain ⟨i, i1, i2, rfl, hown, hon⟩ := hrel
    obtain ⟨wo, rfl⟩ : ∃ wo, wo = wr := ⟨_, rfl⟩
    by_cases hlt : i < n
    · have hST : sortS rs i ++ tailE n i = way (sortS rs i) (i : Int) (tailE n (i + 1)) i := by
        have := way_start (S := sortS rs i) (x := (i : Int)) (tail := tailE n (i + 1))
        rw [sortS_len] at this
        rw [this, tailE_step hlt]
      rw [hST] at hown
      have HEND : Hid (way (sortS rs i) (i : Int) (tailE n (i + 1)) (slide rs (sortS rs i) (i : Int) i) = sortS rs (i + 1) ++ tailE n (i + 1)) := by
        have := way_end (rs := rs) (S := sortS rs i) (tail := tailE n (i + 1)) (x := (i : Int))
        rw [sortS_len] at this
        exact this
      have HAT := Lib.hid (fun j => sortS_at (rs := rs) (k := i) (j := j))
      have hSL := sortS_len rs i
      have hsl := slide_le rs (sortS rs i) (i : Int) i
      clear hST
      generalize sortS rs i = S at *
      obtain ⟨tl, htl⟩ : ∃ tl, tailE n (i + 1) = tl := ⟨_, rfl⟩
      rw [htl] at hown HEND
      have HTL := Lib.hid htl
      clear htl
      obtain ⟨p, hp⟩ : ∃ p, slide rs S (i : Int) i = p := ⟨_, rfl⟩
      have HP := Lib.hid hp
      have HSL := Lib.hid hSL
      rw [hp] at hsl HEND
      clear hp hSL
      go_wp2
      go_loopw [9] (fun j_ wr => ∃ j : Nat, p ≤ j ∧ j ≤ i ∧ slide rs S (i : Int) j = p ∧ j_ = .int .i64 j ∧ OwnI wr lo hi (.slice (some ⟨g, 0, none⟩) n c) (way S (i : Int) tl j) ∧ Only g (g + 1) w wr) (fun j_ _ => (intOf j_).toNat)
      case atStart => exact ⟨i, hsl, Nat.le_refl _, HP.out, rfl, hown, hon⟩
      case round =>
        obtain ⟨j, j1, j2, hpj, rfl, hown, hon⟩ := hrel
        have HPJ := Lib.hid hpj
        clear hpj
        cases j with
        | zero =>
          have hp0 : p = 0 := by omega
          have e0 : decide ((0 : Int) < ((0 : Nat) : Int)) = false := rfl
          have HE := Lib.hid (show way S (i : Int) tl 0 = sortS rs (i + 1) ++ tl from by rw [← HEND.out, hp0])
          rw [HE.out] at hown
          clear hp0 j1
          go_wp2
          go_quiet (fail)
          go_wp2
          go_roundw
          case rel => exact ⟨i + 1, by omega, by omega, by go_num, by rw [HTL.out]; exact hown, hon.trans (only_drewN _ _)⟩
          case measure => simp [intOf]; omega
        | succ j =>
          have t0 : (0 : Int) < ((j + 1 : Nat) : Int) := by omega
          have hjS : j < S.length := by rw [HSL.out]; omega
          have cx := hown.cellAt (j + 1) (by omega)
          rw [way_at (by omega)] at cx
          have cy := hown.cellAt j (by omega)
          rw [way_left hjS] at cy
          have by_ := HAT.out j (by omega)
          obtain ⟨y, hy⟩ : ∃ y : Nat, ix S j = (y : Int) := ⟨(ix S j).toNat, by omega⟩
          have hyi : y < i := by omega
          rw [hy] at cy
          have K1 := Lib.hid (fun q => Calls.quiet_of (n := q) (filledCmp_any i y (wr.drewN q) ((K.only hon h1 H2.out).drewN q) (by omega) (by omega) HR.out))
          have q1 : IntKind.i64.wrap (((j + 1 : Nat) : Int) - 1) = (j : Int) := by rw [IntWalk.i64_in _ (by omega)]; omega
          have q2 : ((j + 1 : Nat) : Int) - 1 = (j : Int) := by omega
          have q3 : (j : Int) < (n : Int) := by omega
          have q4 : ((j + 1 : Nat) : Int) < (n : Int) := by omega
          obtain ⟨dd, hdd⟩ : ∃ dd, rv rs (y : Int) - rv rs (i : Int) = dd := ⟨_, rfl⟩
          rw [hdd] at K1
          by_cases hlt2 : rv rs (y : Int) < rv rs (i : Int)
          · have hpj2 : slide rs S (i : Int) j = p := by have := HPJ.out; unfold slide at this; rw [hy, if_pos hlt2] at this; exact this
            have hpl : p ≤ j := by rw [← hpj2]; exact slide_le _ _ _ _
            have HPJ2 := Lib.hid hpj2
            have t5 : decide (dd < 0) = true := decide_eq_true (by omega)
            have hws := way_step (x := (i : Int)) (tail := tl) hjS
            rw [hy] at hws
            have HWS := Lib.hid hws
            clear hlt2 hdd hpj2 hws hy HPJ by_
            go_wp2
            go_quiet ((first | (with_reducible exact K1.out _)))
            have hown2 : OwnI (wr.drewN nq) lo hi (.slice (some ⟨g, 0, none⟩) n c) (way S (i : Int) tl (j + 1)) := hown
            have hon2 := hon.trans (only_drewN (lo := g) (hi := g + 1) wr nq)
            have cx2 : (wr.drewN nq).cell? ⟨g, j + 1, none⟩ = some (.int .i64 (i : Int)) := cx
            have cy2 : (wr.drewN nq).cell? ⟨g, j, none⟩ = some (.int .i64 (y : Int)) := cy
            clear cx cy hown hon K1
            generalize wr.drewN nq = w3 at *
            have fx := hown2.frozenAt (j + 1)
            have fy := hown2.frozenAt j
            go_wp2
            go_region
            obtain ⟨oa, na⟩ := hown2.stored (j + 1) (y : Int)
            obtain ⟨ob, nb⟩ := oa.stored j (i : Int)
            rw [HWS.out] at ob
            have hon3 := Lib.hid ((hon2.trans (na.trans nb)).trans (only_drewN (lo := g) (hi := g + 1) _ 1))
            have OB := Lib.hid ob
            clear oa na nb ob hown2 hon2 cx2 cy2 fx fy
            go_wp2
            go_roundw
            case rel => exact ⟨j, hpl, by omega, HPJ2.out, by go_num, OB.out, hon3.out⟩
            case measure => simp [intOf] <;> omega
          · have t5 : decide (dd < 0) = false := decide_eq_false (by omega)
            have hpj2 : j + 1 = p := by have := HPJ.out; unfold slide at this; rw [hy, if_neg hlt2] at this; exact this
            have HE := Lib.hid (show way S (i : Int) tl (j + 1) = sortS rs (i + 1) ++ tl from by rw [← HEND.out, hpj2])
            rw [HE.out] at hown
            clear hlt2 hdd hpj2 hy HPJ by_
            go_wp2
            go_quiet ((first | (with_reducible exact K1.out _)))
            clear cx cy
            go_wp2
            go_roundw
            case rel => exact ⟨i + 1, by omega, by omega, by go_num, by rw [HTL.out]; exact hown, hon.trans (only_drewN _ _)⟩
            case measure => simp [intOf]; omega
    · obtain rfl : i = n := by omega
      have e : sortS rs i ++ tailE i i = sortS rs i := by unfold tailE; rw [List.drop_eq_nil_of_le (by rw [upE_len]; exact Nat.le_refl _), List.append_nil]
      rw [e] at hown
      go_wp2
      go_end0
      exact ⟨⟨_, rfl⟩, hown, hon⟩
set_option maxRecDepth 100000 in
set_option maxHeartbeats 1000000 in
theorem stable_any (g c n lo hi : Nat) {gb l d : Nat} {B : Option Addr} {rs : List Int} (w : World) (ho : OwnI w lo hi (.slice (some ⟨g, 0, none⟩) n c) (upE n)) (K : RestAt w gb B l d rs) (h1 : gb ≠ g) (h2 : ∀ a, B = some a → 0 < l → a.block ≠ g)
    (hn : 1 ≤ n) (hn6 : n ≤ 6) (hl : n ≤ l) (hr : ∀ i, i < l → 0 ≤ ix rs i ∧ ix rs i ≤ 1000000000) :
    Calls Try.prog 49 #[.slice (some ⟨g, 0, none⟩) n c, .int .i64 (n : Int), .func (.func 37) #[] #[.pointer (some ⟨gb, 0, none⟩)]] w fun e w' =>
      (∃ v, e = .returned v) ∧ OwnI w' lo hi (.slice (some ⟨g, 0, none⟩) n c) (sortS rs n) ∧ Only g (g + 1) w w' := by
  have HI := Lib.hid (insertion_any g c n lo hi w ho K h1 h2 hn hn6 hl hr)
  clear hr h2 ho K
  go_enter Try.func49, Try.ntmps49
  go_wp2
  go_loopw [7, 8] (fun a_ b_ wr => a_ = .int .i64 0 ∧ b_ = .int .i64 20 ∧ wr = w) (fun _ _ _ => 0)
  case atStart => exact ⟨rfl, rfl, rfl⟩
  case round =>
    obtain ⟨rfl, rfl, rfl⟩ := hrel
    have t0 : ¬ ((20 : Int) ≤ (n : Int)) := by omega
    go_wp2_with fail
    (with_reducible refine HI.out.mono ?_)
    rintro e w2 ⟨⟨v, rfl⟩, ho2, hon⟩
    have t1 : ¬ ((20 : Int) < (n : Int)) := by omega
    go_wp2
    go_loopw [6, 7, 8, 9] (fun s_ _ _ _ wr => s_ = .int .i64 20 ∧ wr = w2) (fun _ _ _ _ _ => 0)
    case atStart => exact ⟨rfl, rfl⟩
    case round =>
      obtain ⟨rfl, rfl⟩ := hrel
      go_wp2
      go_end0
      exact ⟨⟨_, rfl⟩, ho2, hon⟩
theorem sortStable_any (g c n lo hi : Nat) {gb l d : Nat} {B : Option Addr} {rs : List Int} (w : World) (ho : OwnI w lo hi (.slice (some ⟨g, 0, none⟩) n c) (upE n)) (K : RestAt w gb B l d rs) (h1 : gb ≠ g) (h2 : ∀ a, B = some a → 0 < l → a.block ≠ g)
    (hn : 1 ≤ n) (hn6 : n ≤ 6) (hl : n ≤ l) (hr : ∀ i, i < l → 0 ≤ ix rs i ∧ ix rs i ≤ 1000000000) :
    Calls Try.prog 36 #[.slice (some ⟨g, 0, none⟩) n c, .func (.func 37) #[] #[.pointer (some ⟨gb, 0, none⟩)]] w fun e w' =>
      (∃ v, e = .returned v) ∧ OwnI w' lo hi (.slice (some ⟨g, 0, none⟩) n c) (sortS rs n) ∧ Only g (g + 1) w w' := by
  have HI := Lib.hid (stable_any g c n lo hi w ho K h1 h2 hn hn6 hl hr)
  clear hr h2 ho K
  go_enter Try.func36, Try.ntmps36
  go_wp2_with fail
  (with_reducible refine HI.out.mono ?_)
  rintro e w2 ⟨⟨v, rfl⟩, ho2, hon⟩
  go_wp2
  go_end0
  exact ⟨⟨_, rfl⟩, ho2, hon⟩
end Go.Proofs.Ytmmmgppfmcklpaa
