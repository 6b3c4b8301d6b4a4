/- Each number rounded; a table turned. -/
import Derived.Test.YtefppihanblhmaaTabSums
import Derived.Test.YtefppihanblhmaaRnd
namespace Go.Proofs.Ytefppihanblhmaa
set_option linter.unusedVariables false
open Go.RowKit

def roundNum (x : Int) : Int := (x + 5) / 10 * 10
def roundRow (xs : List Int) : List Int := xs.map roundNum
def roundR (xss : List (List Int)) : List (List Int) := xss.map roundRow
theorem roundRow_take {xs : List Int} {k : Nat} (h : k < xs.length) : roundRow (xs.take (k + 1)) = roundRow (xs.take k) ++ [roundNum (ix xs k)] := by
  rw [take_ix h]; simp [roundRow]
theorem roundR_take {xss : List (List Int)} {k : Nat} (h : k < xss.length) : roundR (xss.take (k + 1)) = roundR (xss.take k) ++ [roundRow (rx xss k)] := by
  rw [take_rx h]; simp [roundR]
theorem roundRow_len (xs : List Int) : (roundRow xs).length = xs.length := by simp [roundRow]
theorem roundR_len (xss : List (List Int)) : (roundR xss).length = xss.length := by simp [roundR]
def roundEachOf (xss : List (List Int)) : List (List Int) := if tableOk xss then roundR xss else []
theorem roundEachOf_yes {xss : List (List Int)} (h : tableOk xss = true) : roundEachOf xss = roundR xss := by unfold roundEachOf; rw [if_pos h]
theorem roundEachOf_no {xss : List (List Int)} (h : tableOk xss = false) : roundEachOf xss = [] := by unfold roundEachOf; rw [h]; rfl
theorem roundR_rows {xss : List (List Int)} (hx : ∀ xs ∈ xss, xs.length ≤ 1048576) : ∀ xs ∈ roundR xss, xs.length ≤ 1048576 := fun xs h => by
  unfold roundR at h
  obtain ⟨r, hr, rfl⟩ := List.mem_map.1 h
  rw [roundRow_len]
  exact hx r hr

theorem roundRow_set (xs : List Int) (k : Nat) (hk : k < xs.length) : (roundRow (xs.take k) ++ xs.drop k).set k (roundNum (ix xs k)) = roundRow (xs.take (k + 1)) ++ xs.drop (k + 1) := by
  have e := List.drop_eq_getElem_cons hk
  have hl : (roundRow (xs.take k)).length = k := by rw [roundRow_len]; simp; omega
  rw [roundRow_take hk, List.set_append_right _ _ (by omega), hl, Nat.sub_self, e]
  simp only [List.set_cons_zero, List.append_assoc, List.cons_append, List.nil_append]
theorem roundR_set (xss : List (List Int)) (k : Nat) (hk : k < xss.length) : (roundR (xss.take k) ++ xss.drop k).set k (roundRow (rx xss k)) = roundR (xss.take (k + 1)) ++ xss.drop (k + 1) := by
  have e := List.drop_eq_getElem_cons hk
  have hl : (roundR (xss.take k)).length = k := by rw [roundR_len]; simp; omega
  rw [roundR_take hk, List.set_append_right _ _ (by omega), hl, Nat.sub_self, e]
  simp only [List.set_cons_zero, List.append_assoc, List.cons_append, List.nil_append]
theorem rx_mid (f : List (List Int)) (xss : List (List Int)) (k : Nat) (hf : f.length = k) (hk : k < xss.length) : rx (f ++ xss.drop k) k = rx xss k := by
  unfold rx
  simp only [List.getD]
  rw [List.getElem?_append_right (by omega), hf]
  simp
theorem ix_mid (f : List Int) (xs : List Int) (k : Nat) (hf : f.length = k) : ix (f ++ xs.drop k) k = ix xs k := by
  unfold ix
  simp only [List.getD]
  rw [List.getElem?_append_right (by omega), hf]
  simp

set_option maxHeartbeats 1000000 in
theorem implRoundEach (A : Option Addr) (n c : Nat) (xss : List (List Int)) (w : World) (h : RowsAt w A n xss) (hn : n ≤ 1048576) (hx : ∀ xs ∈ xss, xs.length ≤ 1048576) :
    Calls Try.prog 8 #[.slice A n c] w fun e w' => ∃ A' c', e = .returned (.tuple #[.slice A' (roundEachOf xss).length c', .bool (tableOk xss)]) ∧
      OwnR w' w.heap.size w'.heap.size (.slice A' (roundEachOf xss).length c') (roundEachOf xss) ∧ (roundEachOf xss).length ≤ 1048576 ∧ (∀ xs ∈ roundEachOf xss, xs.length ≤ 1048576) ∧ Below w.heap.size w w' := by
  have HX := Lib.hid hx
  clear hx
  obtain rfl := h.len
  cases ht : tableOk xss
  · rw [roundEachOf_no ht]
    go_enter Try.func8, Try.ntmps8
    go_wp2_with fail
    refine (implTableOk _ _ _ _ _ h hn HX.out).mono ?_
    rintro e w1 ⟨rfl, hb⟩
    go_wp2
    go_ret2
    exact ⟨none, 0, rfl, OwnR.nil _ _ _, by simp, by simp, hb⟩
  · rw [roundEachOf_yes ht, roundR_len]
    have HB := Lib.hid (tableOk_facts ht).2.2.2.2
    have HR := Lib.hid (roundR_rows HX.out)
    go_enter Try.func8, Try.ntmps8
    go_wp2_with fail
    refine (implTableOk _ _ _ _ _ h hn HX.out).mono ?_
    rintro e w1 ⟨rfl, hb1⟩
    have hs1 := hb1.size
    go_wp2_with fail
    refine (copyRows_any _ _ _ _ _ (h.below hb1) hn HX.out).mono ?_
    rintro e w2 ⟨A2, c2, rfl, ho2, hb2⟩
    have hs2 := hb2.size
    have hbt := hb1.trans (hb2.mono hs1)
    replace ho2 := ho2.mono hs1 (Nat.le_refl _)
    clear hb1 hb2
    go_wp2
    go_loopw [6, 7, 8, 16, 22] (fun _ _ _ i _ wr => ∃ k : Nat, k ≤ xss.length ∧ i = .int .i64 k ∧ OwnR wr w.heap.size w2.heap.size (.slice A2 xss.length c2) (roundR (xss.take k) ++ xss.drop k) ∧ w2.heap.size ≤ wr.heap.size ∧ Below w.heap.size w wr)
      (fun _ _ _ i _ _ => xss.length - (intOf i).toNat)
    case atStart => exact ⟨0, Nat.zero_le _, rfl, by simpa [roundR] using ho2, Nat.le_refl _, hbt⟩
    case round =>
      obtain ⟨k, hk, rfl, hown, hz, hb⟩ := hrel
      clear ho2 hbt
      obtain ⟨wo, rfl⟩ : ∃ wo : World, wo = wr := ⟨_, rfl⟩
      by_cases hlt : k < xss.length
      · obtain ⟨g, rfl, hg1, hg2, _⟩ := hown.head (by omega)
        obtain ⟨_, A', c', hck, hin⟩ := hown.row k hlt
        have hl : (roundR (xss.take k)).length = k := by rw [roundR_len]; simp; omega
        rw [rx_mid _ xss k hl hlt] at hck hin
        have hxl := HX.out _ (rx_mem hlt)
        have HV := Lib.hid (HB.out _ (rx_mem hlt)).2
        have HL := Lib.hid hl
        clear hl
        obtain ⟨l2, h2, ho3, hl2, hh2, hlw, hA⟩ := hin.tight_any
        go_wp2
        go_loopw [7, 8, 22] (fun _ _ i wi => ∃ j : Nat, j ≤ (rx xss k).length ∧ i = .int .i64 j ∧ OwnI wi l2 h2 (.slice A' (rx xss k).length c') (roundRow ((rx xss k).take j) ++ (rx xss k).drop j) ∧ Only l2 h2 wo wi)
          (fun _ _ i _ => (rx xss k).length - (intOf i).toNat)
        case atStart => exact ⟨0, Nat.zero_le _, rfl, by simpa [roundRow] using ho3, Only.refl _ _ _⟩
        case round =>
          obtain ⟨j, hj, rfl, hol, hoi⟩ := hrel
          by_cases hjl : j < (rx xss k).length
          · obtain ⟨q, rfl, hq1, hq2⟩ := hol.head (by omega)
            have hcj := hol.cellAt j hjl
            have hfj := hol.frozenAt j
            have hlj : (roundRow ((rx xss k).take j)).length = j := by rw [roundRow_len]; simp; omega
            rw [ix_mid _ _ j hlj] at hcj
            have HLJ := Lib.hid hlj
            clear hlj hck
            have hv := HV.out _ (ix_mem hjl)
            have hst := hol.stored j (roundNum (ix (rx xss k) j))
            rw [roundRow_set _ j hjl] at hst
            have HS := Lib.hid hst
            clear hst
            go_wp2
            go_roundw
            case rel => exact ⟨j + 1, by omega, by go_num, HS.out.1, hoi.trans (HS.out.2.mono hq1 (by omega))⟩
            case measure => simp [intOf]; omega
          · obtain rfl : j = (rx xss k).length := by omega
            rw [List.take_length, List.drop_length, List.append_nil] at hol
            have hR := hown.inner_any k hlt hck hoi hol hA
            rw [roundR_set _ k hlt] at hR
            have HR2 := Lib.hid hR
            have hbt := hb.trans (hoi.toBelow (B := w.heap.size) (by omega) (by omega))
            have hsz := hoi.size
            clear hck hR hown hb hoi hol
            go_wp2
            go_roundw
            case rel => exact ⟨k + 1, by omega, by go_num, HR2.out, by omega, hbt⟩
            case measure => simp [intOf]; omega
      · obtain rfl : k = xss.length := by omega
        rw [List.take_length, List.drop_length, List.append_nil] at hown
        have HW := Lib.hid (hown.mono (Nat.le_refl _) hz)
        clear hown
        go_wp2
        go_ret2
        exact ⟨_, _, rfl, HW.out, hn, HR.out, hb⟩
end Go.Proofs.Ytefppihanblhmaa
