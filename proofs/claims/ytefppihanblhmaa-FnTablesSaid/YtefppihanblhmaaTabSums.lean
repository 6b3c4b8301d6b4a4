/- Sums of rows and columns. -/
import Derived.Test.YtefppihanblhmaaSums
import Derived.Test.YtefppihanblhmaaTables
import Derived.Test.YtefppihanblhmaaBaseR
namespace Go.Proofs.Ytefppihanblhmaa
set_option linter.unusedVariables false
open Go.RowKit

def rsums (xss : List (List Int)) : List Int := xss.map lsum
theorem rsums_len (xss : List (List Int)) : (rsums xss).length = xss.length := by simp [rsums]
theorem rsums_take {xss : List (List Int)} {k : Nat} (h : k < xss.length) : rsums (xss.take (k + 1)) = rsums (xss.take k) ++ [lsum (rx xss k)] := by
  rw [take_rx h]; simp [rsums]
theorem rsums_take_len {xss : List (List Int)} {k : Nat} (h : k ≤ xss.length) : (rsums (xss.take k)).length = k := by rw [rsums_len]; simp; omega

set_option maxHeartbeats 400000 in
theorem rowSums_any (A : Option Addr) (n c : Nat) (xss : List (List Int)) (w : World) (h : RowsAt w A n xss) (hn : n ≤ 1048576) (hx : ∀ xs ∈ xss, xs.length ≤ 1048576 ∧ ∀ x ∈ xs, 0 ≤ x ∧ x ≤ 1000000000) :
    Calls Try.prog 24 #[.slice A n c] w fun e w' => ∃ A' c', e = .returned (.slice A' n c') ∧ OwnI w' w.heap.size w'.heap.size (.slice A' n c') (rsums xss) ∧ Below w.heap.size w w' := by
  obtain rfl := h.len
  have HX := Lib.hid hx
  clear hx
  go_enter Try.func24, Try.ntmps24
  go_wp2
  go_loopw [3, 5, 8] (fun v _ i wr => ∃ (k : Nat) (A' : Option Addr) (c' : Nat), k ≤ xss.length ∧ i = .int .i64 k ∧ v = .slice A' k c' ∧ OwnI wr w.heap.size wr.heap.size (.slice A' k c') (rsums (xss.take k)) ∧ Below w.heap.size w wr)
    (fun _ _ i _ => xss.length - (intOf i).toNat)
  case atStart => exact ⟨0, none, 0, Nat.zero_le _, rfl, rfl, OwnI.nil _ _ _, Below.refl _ _⟩
  case round =>
    obtain ⟨k, A1, c1, hk, rfl, rfl, hown, hb⟩ := hrel
    by_cases hlt : k < xss.length
    · obtain ⟨b, o, A', c', rfl, hbl, hck, hcc, hin⟩ := (h.below hb).at_ hlt
      have hxk := HX.out _ (rx_mem hlt)
      have HXK := Lib.hid hxk.2
      have hxl := hxk.1
      clear hxk
      have hsz := hb.size
      go_wp2_with (first
        | (go_at_call 25; refine (sumOf_any A' _ c' (rx xss k) _ hin hxl HXK.out).mono ?_; rintro e w' ⟨rfl, rfl⟩)
        | (at_builtin; refine wpList_append_int _ rfl _ _ rfl w.heap.size _ k _ _ _ rfl (hown.alloc _) (lsum (rx xss k)) _ 1 rfl (new_cell _ _ _ rfl) (by omega) (by simp; omega) (by simp; omega) ?_))
      intro A2 c2 w2 ho2 hon
      rw [← rsums_take hlt] at ho2
      have hb2 : Below w.heap.size w w2 := (hb.alloc hsz _).trans (hon.toBelow (Nat.le_refl _) (by simp; omega))
      clear hon hown hck
      go_wp2
      go_roundw
      case rel => exact ⟨k + 1, _, _, by omega, by go_num, rfl, ho2, hb2⟩
      case measure => simp [intOf]; omega
    · obtain rfl : k = xss.length := by omega
      rw [List.take_length] at hown
      go_wp2
      go_ret
      exact ⟨_, _, rfl, hown, hb⟩

def rowSumsOf (xss : List (List Int)) : List Int := if tableOk xss then rsums xss else []
theorem rowSumsOf_yes {xss : List (List Int)} (h : tableOk xss = true) : rowSumsOf xss = rsums xss := by unfold rowSumsOf; rw [if_pos h]
theorem rowSumsOf_no {xss : List (List Int)} (h : tableOk xss = false) : rowSumsOf xss = [] := by unfold rowSumsOf; rw [h]; rfl
theorem table_bd {xss : List (List Int)} (h : tableOk xss = true) : ∀ xs ∈ xss, xs.length ≤ 1048576 ∧ ∀ x ∈ xs, 0 ≤ x ∧ x ≤ 1000000000 := fun xs hxs => by
  obtain ⟨h1, h2, h3, h4, h5⟩ := tableOk_facts h
  have := h5 xs hxs
  exact ⟨by omega, fun x hx => by have := this.2 x hx; omega⟩
theorem lsum_table {xss : List (List Int)} (h : tableOk xss = true) : ∀ x ∈ rsums xss, 0 ≤ x ∧ x ≤ 4000 := fun x hx => by
  unfold rsums at hx
  obtain ⟨r, hr, rfl⟩ := List.mem_map.1 hx
  obtain ⟨h1, h2, h3, h4, h5⟩ := tableOk_facts h
  have h6 := h5 r hr
  have := lsum_bd r 1000 h6.2
  have h7 : (r.length : Int) * 1000 ≤ 4 * 1000 := by omega
  exact ⟨this.1, by omega⟩

theorem implRowSums (A : Option Addr) (n c : Nat) (xss : List (List Int)) (w : World) (h : RowsAt w A n xss) (hn : n ≤ 1048576) (hx : ∀ xs ∈ xss, xs.length ≤ 1048576) :
    Calls Try.prog 13 #[.slice A n c] w fun e w' => ∃ A' c', e = .returned (.slice A' (rowSumsOf xss).length c') ∧ OwnI w' w.heap.size w'.heap.size (.slice A' (rowSumsOf xss).length c') (rowSumsOf xss) ∧ (rowSumsOf xss).length ≤ 1048576 ∧ Below w.heap.size w w' := by
  have HX := Lib.hid hx
  clear hx
  obtain rfl := h.len
  cases ht : tableOk xss
  · rw [rowSumsOf_no ht]
    go_enter Try.func13, Try.ntmps13
    go_wp2_with fail
    refine (implTableOk _ _ _ _ _ h hn HX.out).mono ?_
    rintro e w1 ⟨rfl, hb⟩
    go_wp2
    go_ret
    exact ⟨none, 0, rfl, OwnI.nil _ _ _, by simp, hb⟩
  · rw [rowSumsOf_yes ht, rsums_len]
    have HB := Lib.hid (table_bd ht)
    go_enter Try.func13, Try.ntmps13
    go_wp2_with fail
    refine (implTableOk _ _ _ _ _ h hn HX.out).mono ?_
    rintro e w1 ⟨rfl, hb⟩
    go_wp2_with fail
    refine (rowSums_any _ _ _ _ _ (h.below hb) hn HB.out).mono ?_
    rintro e w2 ⟨A', c', rfl, ho, hb2⟩
    have hs := hb.size
    have hbt := hb.trans (hb2.mono hs)
    clear hb hb2
    go_wp2
    go_ret
    exact ⟨_, _, rfl, ho.mono hs (Nat.le_refl _), hn, hbt⟩
def totalOf (xss : List (List Int)) : Int := if tableOk xss then lsum (rsums xss) else -1
theorem totalOf_yes {xss : List (List Int)} (h : tableOk xss = true) : totalOf xss = lsum (rsums xss) := by unfold totalOf; rw [if_pos h]
theorem totalOf_no {xss : List (List Int)} (h : tableOk xss = false) : totalOf xss = -1 := by unfold totalOf; rw [h]; rfl
theorem implTotalOf (A : Option Addr) (n c : Nat) (xss : List (List Int)) (w : World) (h : RowsAt w A n xss) (hn : n ≤ 1048576) (hx : ∀ xs ∈ xss, xs.length ≤ 1048576) :
    Calls Try.prog 16 #[.slice A n c] w fun e w' => e = .returned (.int .i64 (totalOf xss)) ∧ Below w.heap.size w w' := by
  have HX := Lib.hid hx
  clear hx
  obtain rfl := h.len
  cases ht : tableOk xss
  · rw [totalOf_no ht]
    go_enter Try.func16, Try.ntmps16
    go_wp2_with fail
    refine (implTableOk _ _ _ _ _ h hn HX.out).mono ?_
    rintro e w1 ⟨rfl, hb⟩
    go_wp2
    go_ret
    exact ⟨rfl, hb⟩
  · rw [totalOf_yes ht]
    have HB := Lib.hid (table_bd ht)
    have HS := Lib.hid (lsum_table ht)
    go_enter Try.func16, Try.ntmps16
    go_wp2_with fail
    refine (implTableOk _ _ _ _ _ h hn HX.out).mono ?_
    rintro e w1 ⟨rfl, hb⟩
    go_wp2_with fail
    refine (rowSums_any _ _ _ _ _ (h.below hb) hn HB.out).mono ?_
    rintro e w2 ⟨A', c', rfl, ho, hb2⟩
    have hs := hb.size
    have hbt := hb.trans (hb2.mono hs)
    clear hb hb2
    go_wp2_with fail
    refine (sumOf_any _ _ _ _ _ ho.at_ hn (fun x hx => by have := HS.out x hx; omega)).mono ?_
    rintro e w3 ⟨rfl, rfl⟩
    go_wp2
    go_ret
    exact ⟨rfl, hbt⟩
end Go.Proofs.Ytefppihanblhmaa
