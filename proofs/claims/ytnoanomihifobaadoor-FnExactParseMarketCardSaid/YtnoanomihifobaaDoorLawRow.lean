/- The laws' own helpers on slices of slices: sizes, copies, comparison, marks. -/
import Derived.Test.YtnoanomihifobaaDoorBaseR
import Derived.Test.YtnoanomihifobaaDoorLawInt
namespace Go.Proofs.YtnoanomihifobaaDoor
set_option linter.unusedVariables false
open Go.RowKit



theorem rows_set (xss : List (List Int)) (k : Nat) (hk : k < xss.length) : (xss.take k ++ List.replicate (xss.length - k) []).set k (rx xss k) = xss.take (k + 1) ++ List.replicate (xss.length - (k + 1)) [] := by
  have e : xss.length - k = (xss.length - (k + 1)) + 1 := by omega
  rw [e, List.replicate_succ, List.set_append_right _ _ (by simp; omega), take_rx hk]
  simp [show min k xss.length = k by omega]


set_option maxHeartbeats 400000 in
theorem eqIntSS_eq (A A' : Option Addr) (n n' c c' : Nat) (xss : List (List Int)) (w : World) (h : RowsAt w A n xss) (h' : RowsAt w A' n' xss) (hn : n ≤ 1048576) (hx : ∀ xs ∈ xss, xs.length ≤ 1048576) :
    Calls Tryd.prog 17 #[.slice A n c, .slice A' n' c'] w fun e w' => e = .returned (.bool true) ∧ ∃ m, w' = w.drewN m := by
  obtain rfl : n' = n := by rw [← h.len, ← h'.len]
  obtain rfl := h.len
  go_enter Tryd.func17, Tryd.ntmps17
  go_wp2
  go_loopw [5] (fun i wr => ∃ k m : Nat, k ≤ xss.length ∧ i = .int .i64 k ∧ wr = w.drewN m) (fun i _ => xss.length - (intOf i).toNat)
  case atStart => exact ⟨0, 0, Nat.zero_le _, rfl, rfl⟩
  case round =>
    obtain ⟨k, m, hk, rfl, rfl⟩ := hrel
    by_cases hlt : k < xss.length
    · obtain ⟨b, o, A1, c1, rfl, hbl, hck, hcc, hin⟩ := h.at_ hlt
      obtain ⟨b2, o2, A2, c2, rfl, hbl2, hck2, hcc2, hin2⟩ := h'.at_ hlt
      have hxk := hx _ (rx_mem hlt)
      go_wp2
      go_quiet ((go_at_call 31; exact quiet_add (eqIntS_eq A1 A2 _ _ c1 c2 (rx xss k) _ (hin.drewN _) (hin2.drewN _) (by omega))))
      go_wp2
      go_roundw
      case rel => exact ⟨k + 1, _, by omega, by go_num, rfl⟩
      case measure => simp [intOf]; omega
    · obtain rfl : k = xss.length := by omega
      go_wp2
      go_ret
      exact ⟨rfl, _, rfl⟩

def marksR (k : Int) : List (List Int) → List (List Int)
  | [] => []
  | xs :: r => marks k xs.length :: marksR (k + xs.length) r
def endR (k : Int) : List (List Int) → Int
  | [] => k
  | xs :: r => endR (k + xs.length) r
theorem marksR_snoc (k : Int) (l : List (List Int)) (xs : List Int) : marksR k (l ++ [xs]) = marksR k l ++ [marks (endR k l) xs.length] := by
  induction l generalizing k with
  | nil => simp [marksR, endR]
  | cons y l ih => simp [marksR, endR, ih]
theorem endR_snoc (k : Int) (l : List (List Int)) (xs : List Int) : endR k (l ++ [xs]) = endR k l + xs.length := by
  induction l generalizing k with
  | nil => simp [endR]
  | cons y l ih => simp [endR, ih]
theorem marksR_len (k : Int) (l : List (List Int)) : (marksR k l).length = l.length := by
  induction l generalizing k with
  | nil => rfl
  | cons y l ih => simp [marksR, ih]
theorem rx_marksR (k : Int) (l : List (List Int)) (j : Nat) (h : j < l.length) : rx (marksR k l) j = marks (endR k (l.take j)) (rx l j).length := by
  induction l generalizing k j with
  | nil => simp at h
  | cons y l ih =>
    cases j with
    | zero => simp [marksR, rx, endR]
    | succ j =>
      have := ih (k + y.length) j (by simpa using h)
      simpa [marksR, rx, endR] using this
theorem endR_ge (k : Int) (l : List (List Int)) : k ≤ endR k l := by
  induction l generalizing k with
  | nil => simp [endR]
  | cons y l ih => have := ih (k + y.length); simp only [endR]; omega
theorem endR_le (k : Int) (l : List (List Int)) (b : Nat) (hx : ∀ xs ∈ l, xs.length ≤ b) : endR k l ≤ k + l.length * b := by
  induction l generalizing k with
  | nil => simp [endR]
  | cons y l ih =>
    have h1 := ih (k + y.length) (fun xs h => hx xs (by simp [h]))
    have h2 := hx y (by simp)
    simp only [endR, List.length_cons, Int.natCast_add, Int.add_mul]
    omega
theorem marksR_set (k0 : Int) (xss : List (List Int)) (k : Nat) (hk : k < xss.length) :
    (marksR k0 (xss.take k) ++ xss.drop k).set k (marks (endR k0 (xss.take k)) (rx xss k).length) = marksR k0 (xss.take (k + 1)) ++ xss.drop (k + 1) := by
  have e := List.drop_eq_getElem_cons hk
  have hl : (marksR k0 (xss.take k)).length = k := by rw [marksR_len]; simp; omega
  rw [take_rx hk, marksR_snoc, List.set_append_right _ _ (by omega), hl, Nat.sub_self, e]
  simp only [List.set_cons_zero, List.append_assoc, List.cons_append, List.nil_append]

set_option maxHeartbeats 400000 in
theorem markIntSS_any (A : Option Addr) (n c lo hi : Nat) (xss : List (List Int)) (k0 : Int) (w : World) (h : OwnR w lo hi (.slice A n c) xss) (hn : n ≤ 1048576) (hx : ∀ xs ∈ xss, xs.length ≤ 1048576) (h0 : 0 ≤ k0) (h1 : k0 ≤ 576460752303423488) :
    Calls Tryd.prog 18 #[.slice A n c, .int .i64 k0] w fun e w' => e = .returned (.int .i64 (endR k0 xss)) ∧ OwnR w' lo hi (.slice A n c) (marksR k0 xss) ∧ Only lo hi w w' ∧ 0 ≤ endR k0 xss ∧ endR k0 xss ≤ k0 + 1099511627776 := by
  obtain rfl := h.num.1
  have hE : 0 ≤ endR k0 xss ∧ endR k0 xss ≤ k0 + 1099511627776 := by
    have h3 := endR_ge k0 xss
    have h4 := endR_le k0 xss 1048576 hx
    have h5 : (xss.length : Int) * 1048576 ≤ 1048576 * 1048576 := by omega
    exact ⟨by omega, by omega⟩
  have HE0 := Lib.hid hE
  clear hE
  go_enter Tryd.func18, Tryd.ntmps18
  go_wp2
  go_loopw [1, 5] (fun kk i wr => ∃ k : Nat, k ≤ xss.length ∧ i = .int .i64 k ∧ kk = .int .i64 (endR k0 (xss.take k)) ∧ OwnR wr lo hi (.slice A xss.length c) (marksR k0 (xss.take k) ++ xss.drop k) ∧ Only lo hi w wr)
    (fun _ i _ => xss.length - (intOf i).toNat)
  case atStart => exact ⟨0, Nat.zero_le _, rfl, by simp [endR], by simpa [marksR] using h, Only.refl _ _ _⟩
  case round =>
    obtain ⟨k, hk, rfl, rfl, hown, hg⟩ := hrel
    by_cases hlt : k < xss.length
    · obtain ⟨g, rfl, hg1, hg2, _⟩ := hown.head (by omega)
      obtain ⟨_, A2, c2, hc2, ho2⟩ := hown.row k hlt
      have er : rx (marksR k0 (xss.take k) ++ xss.drop k) k = rx xss k := by
        unfold rx
        have hl : (marksR k0 (xss.take k)).length = k := by rw [marksR_len]; simp; omega
        simp only [List.getD]
        rw [List.getElem?_append_right (by omega), hl]
        simp
      rw [er] at hc2 ho2
      have hxk := hx _ (rx_mem hlt)
      have b1 := endR_ge k0 (xss.take k)
      have b2 : endR k0 (xss.take k) ≤ k0 + 1048576 * 1048576 := by
        have := endR_le k0 (xss.take k) 1048576 (fun xs h => hx xs (List.mem_of_mem_take h))
        have h3 : (xss.take k).length ≤ 1048576 := by simp; omega
        have h4 : ((xss.take k).length : Int) * 1048576 ≤ 1048576 * 1048576 := by omega
        omega
      have hset := marksR_set k0 xss k hlt
      have hend := endR_snoc k0 (xss.take k) (rx xss k)
      rw [← take_rx hlt] at hend
      have HE := Lib.hid hend
      clear hend
      generalize hq : endR k0 (xss.take k) = q at *
      have HQ := Lib.hid hq
      clear hq
      obtain ⟨l2, h2, ho3, hl2, hh2, hlw, hA⟩ := ho2.tight_any
      go_wp2_with fail
      refine (markIntS_any A2 (rx xss k).length c2 l2 h2 (rx xss k) q wr ho3 (by omega) (by omega) (by omega)).mono ?_
      rintro e w' ⟨rfl, ho4, hon⟩
      have hR := hown.inner_any k hlt hc2 hon ho4 hA
      rw [hset] at hR
      have hO := hg.trans (hon.sub hl2 hh2)
      have HR := Lib.hid hR
      clear hR hown hc2 ho2 ho3 ho4 hA hset er hon
      go_wp2
      go_roundw
      case rel => exact ⟨k + 1, by omega, by go_num, by rw [HE.out], HR.out, hO⟩
      case measure => simp [intOf]; omega
    · obtain rfl : k = xss.length := by omega
      rw [List.take_length, List.drop_length, List.append_nil] at hown
      have HW := Lib.hid hown
      clear hown
      go_wp2
      go_ret
      exact ⟨ret_i (by simp), HW.out, hg, HE0.out⟩

set_option maxHeartbeats 400000 in
theorem heldIntSS_any (A : Option Addr) (n c : Nat) (xss : List (List Int)) (k0 : Int) (w : World) (h : RowsAt w A n (marksR k0 xss)) (hn : n ≤ 1048576) (hx : ∀ xs ∈ xss, xs.length ≤ 1048576) (h0 : 0 ≤ k0) (h1 : k0 ≤ 576460752303423488) :
    Calls Tryd.prog 19 #[.slice A n c, .int .i64 k0] w fun e w' => e = .returned (.int .i64 (endR k0 xss)) ∧ w = w' := by
  obtain rfl : xss.length = n := by rw [← h.len, marksR_len]
  go_enter Tryd.func19, Tryd.ntmps19
  go_wp2
  go_loop [1, 5] (fun kk i => ∃ k : Nat, k ≤ xss.length ∧ i = .int .i64 k ∧ kk = .int .i64 (endR k0 (xss.take k))) (fun _ i => xss.length - (intOf i).toNat)
  case atStart => exact ⟨0, Nat.zero_le _, rfl, by simp [endR]⟩
  case round =>
    obtain ⟨k, hk, rfl, rfl⟩ := hrel
    by_cases hlt : k < xss.length
    · obtain ⟨b, o, A', c', rfl, hbl, hck, hcc, hin⟩ := h.at_ hlt
      rw [rx_marksR k0 xss k hlt] at hck hcc hin
      rw [marks_len] at hck hcc hin
      have hxk := hx _ (rx_mem hlt)
      have b1 := endR_ge k0 (xss.take k)
      have b2 : endR k0 (xss.take k) ≤ k0 + 1048576 * 1048576 := by
        have := endR_le k0 (xss.take k) 1048576 (fun xs h => hx xs (List.mem_of_mem_take h))
        have h3 : (xss.take k).length ≤ 1048576 := by simp; omega
        have h4 : ((xss.take k).length : Int) * 1048576 ≤ 1048576 * 1048576 := by omega
        omega
      have hend := endR_snoc k0 (xss.take k) (rx xss k)
      rw [← take_rx hlt] at hend
      have HE := Lib.hid hend
      clear hend
      generalize hq : endR k0 (xss.take k) = q at *
      have HQ := Lib.hid hq
      clear hq
      go_wp2_with fail
      refine (heldIntS_any A' (rx xss k).length c' q w hin (by omega) (by omega) (by omega)).mono ?_
      rintro e w' ⟨rfl, rfl⟩
      have hnn : 0 ≤ q + (rx xss k).length := by omega
      go_wp2
      go_round
      case rel => exact ⟨k + 1, by omega, by go_num, by rw [HE.out]⟩
      case measure => simp [intOf]; omega
    · obtain rfl : k = xss.length := by omega
      go_wp2
      go_ret
      exact ⟨ret_i (by simp), rfl⟩
end Go.Proofs.YtnoanomihifobaaDoor
