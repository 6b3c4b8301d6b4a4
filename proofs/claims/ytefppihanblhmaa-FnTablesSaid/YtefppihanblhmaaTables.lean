/- Tables: the check of a rectangle. -/
import Derived.Test.YtefppihanblhmaaClosures
namespace Go.Proofs.Ytefppihanblhmaa
set_option linter.unusedVariables false
open Go.RowKit

/-- a row of so many numbers, each from 0 to 'most' -/
def rowOk (k : Nat) (most : Int) (r : List Int) : Bool := (r.length == k) && r.all (inB · 0 most)

/-- so many rows, so many columns, all numbers from 0 to 'most' -/
def rect (xss : List (List Int)) (high wide most : Int) : Bool :=
  inB xss.length 1 high && inB (rx xss 0).length 1 wide && xss.all (rowOk (rx xss 0).length most)

set_option maxHeartbeats 400000 in
theorem rectangle1 (A' : Option Addr) (c' : Nat) (xs : List Int) (B C : Nat) (A : Option Addr) (n c : Nat) (xss : List (List Int)) (most : Int) (W : World) (hin : IntsAt W A' xs.length xs) (hx : xs.length ≤ 1099511627776)
    (hrows : RowsAt W A n xss) (hn : 0 < n) (h1 : W.cell? ⟨B, 0, none⟩ = some (.slice A n c)) (h2 : W.cell? ⟨C, 0, none⟩ = some (.int .i64 most)) :
    Calls Try.prog 34 #[.slice A' xs.length c', .pointer (some ⟨B, 0, none⟩), .pointer (some ⟨C, 0, none⟩)] W fun e W' => e = .returned (.bool (!rowOk (rx xss 0).length most xs)) ∧ Below W.heap.size W W' := by
  obtain ⟨b, o, A0, c0, rfl, hb, hc0, hl0, _⟩ := hrows.at_ hn
  rw [Nat.add_zero] at hc0
  by_cases e : xs.length = (rx xss 0).length
  · have e2 : (xs.length == (rx xss 0).length) = true := by simpa using e
    unfold rowOk
    rw [e2, Bool.true_and]
    have E2 := Lib.hid e2
    clear e2
    have e3 : ((xs.length : Int) != ((rx xss 0).length : Int)) = false := by rw [bne_eq_false_iff_eq]; omega
    have hall := allWithin_any A' xs.length c' xs 0 most W hin hx
    have HA := Lib.hid hall
    clear hall
    have E := Lib.hid e
    clear e
    go_enter Try.func34, Try.ntmps34
    go_wp2_with fail
    refine HA.out.mono ?_
    rintro e w' ⟨rfl, hbw⟩
    go_wp2
    go_ret
    exact ⟨rfl, hbw⟩
  · have e2 : (xs.length == (rx xss 0).length) = false := by simpa using e
    unfold rowOk
    rw [e2, Bool.false_and]
    clear e2
    have e3 : ((xs.length : Int) != ((rx xss 0).length : Int)) = true := by rw [bne_iff_ne]; omega
    clear e
    go_enter Try.func34, Try.ntmps34
    go_wp2
    go_ret
    exact ⟨rfl, Below.refl _ _⟩

theorem any_not_all {α : Type} (p : α → Bool) (l : List α) : (!(l.any fun x => !p x)) = l.all p := by
  rw [List.not_any_eq_all_not]
  congr 1
  funext x
  simp

set_option maxHeartbeats 400000 in
theorem rectangle_any (A : Option Addr) (n c : Nat) (xss : List (List Int)) (high wide most : Int) (w : World) (h : RowsAt w A n xss) (hn : n ≤ 1048576) (hx : ∀ xs ∈ xss, xs.length ≤ 1048576) :
    Calls Try.prog 22 #[.slice A n c, .int .i64 high, .int .i64 wide, .int .i64 most] w fun e w' => e = .returned (.bool (rect xss high wide most)) ∧ Below w.heap.size w w' := by
  obtain rfl := h.len
  have hb2 : Below w.heap.size w ((w.alloc (.cells #[.slice A xss.length c] 23)).alloc (.cells #[.int .i64 most] 3)) := ((Below.refl _ _).alloc (Nat.le_refl _) _).alloc (by simp) _
  have c1 := old_cell (new_cell w (.slice A xss.length c) 23 rfl) (.cells #[.int .i64 most] 3)
  have c2 := new_cell (w.alloc (.cells #[.slice A xss.length c] 23)) (.int .i64 most) 3 (g := w.heap.size + 1) (by simp)
  have h2 := h.below hb2
  have hz : ((w.alloc (.cells #[.slice A xss.length c] 23)).alloc (.cells #[.int .i64 most] 3)).heap.size = w.heap.size + 2 := by simp
  cases hb1 : inB xss.length 1 high
  · unfold rect
    rw [hb1, Bool.false_and, Bool.false_and]
    go_enter Try.func22, Try.ntmps22
    go_wp2_with (go_at_call 26; refine (within_any _ _ _ _).mono ?_; rintro e w' ⟨rfl, rfl⟩)
    go_ret
    exact ⟨rfl, hb2⟩
  · have hpos : 0 < xss.length := by have := inB_iff.1 hb1; omega
    obtain ⟨b, o, A0, c0, rfl, hb, hc0, hl0, _⟩ := h2.at_ hpos
    rw [Nat.add_zero] at hc0
    have hm0 := hx _ (rx_mem hpos)
    cases hb3 : inB (rx xss 0).length 1 wide
    · unfold rect
      rw [hb1, hb3, Bool.true_and, Bool.false_and]
      go_enter Try.func22, Try.ntmps22
      go_wp2_with (go_at_call 26; refine (within_any _ _ _ _).mono ?_; rintro e w' ⟨rfl, rfl⟩)
      go_ret
      exact ⟨rfl, hb2⟩
    · unfold rect
      rw [hb1, hb3, Bool.true_and, Bool.true_and]
      have hcf := containsFuncR_any 34 #[.pointer (some ⟨w.heap.size, 0, none⟩), .pointer (some ⟨w.heap.size + 1, 0, none⟩)] (fun r => !rowOk (rx xss 0).length most r) _ xss.length c xss _ h2 (by omega)
        (enters Try.func34 (by kernel_rfl) rfl)
        (fun A' c' xs W hxs hin hcc hbb => rectangle1 A' c' xs w.heap.size (w.heap.size + 1) _ xss.length c xss most W hin (by have := hx xs hxs; omega) (h2.below hbb) hpos
          ((hbb.cell (p := ⟨w.heap.size, 0, none⟩) (by simp; omega)).trans c1) ((hbb.cell (p := ⟨w.heap.size + 1, 0, none⟩) (by simp)).trans c2))
      rw [← any_not_all]
      have HC := Lib.hid hcf
      clear hcf
      go_enter Try.func22, Try.ntmps22
      go_wp2_with (go_at_call 26; refine (within_any _ _ _ _).mono ?_; rintro e w' ⟨rfl, rfl⟩)
      refine HC.out.mono ?_
      rintro e w' ⟨rfl, hbw⟩
      have hfin := hb2.trans (hbw.mono (by omega))
      clear hbw hb2 c1 c2 hz
      go_wp2
      go_ret
      exact ⟨rfl, hfin⟩
def tableOk (xss : List (List Int)) : Bool := rect xss 4 4 1000
theorem tableOk_facts {xss : List (List Int)} (h : tableOk xss = true) : 1 ≤ xss.length ∧ xss.length ≤ 4 ∧ 1 ≤ (rx xss 0).length ∧ (rx xss 0).length ≤ 4 ∧
    ∀ xs ∈ xss, xs.length = (rx xss 0).length ∧ ∀ x ∈ xs, 0 ≤ x ∧ x ≤ 1000 := by
  unfold tableOk rect at h
  rw [Bool.and_eq_true, Bool.and_eq_true, inB_iff, inB_iff, List.all_eq_true] at h
  refine ⟨by omega, by omega, by omega, by omega, fun xs hxs => ?_⟩
  have h2 := h.2 xs hxs
  unfold rowOk at h2
  rw [Bool.and_eq_true, List.all_eq_true] at h2
  exact ⟨by simpa using h2.1, fun x hx => inB_iff.1 (h2.2 x hx)⟩
theorem implTableOk (A : Option Addr) (n c : Nat) (xss : List (List Int)) (w : World) (h : RowsAt w A n xss) (hn : n ≤ 1048576) (hx : ∀ xs ∈ xss, xs.length ≤ 1048576) :
    Calls Try.prog 9 #[.slice A n c] w fun e w' => e = .returned (.bool (tableOk xss)) ∧ Below w.heap.size w w' := by
  go_enter Try.func9, Try.ntmps9
  go_wp2_with fail
  refine (rectangle_any _ _ _ _ _ _ _ _ h hn hx).mono ?_
  rintro e w' ⟨rfl, hbw⟩
  go_wp2
  go_ret
  exact ⟨rfl, hbw⟩
end Go.Proofs.Ytefppihanblhmaa
