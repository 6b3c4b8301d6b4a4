/- PlayReplies' contracts, as the exact law's walk wants them. The laws' own helpers on slices of integers: copies, comparison, marks. The laws' own helpers on slices of slices: sizes, copies, comparison, marks. Stores into a block of the call's own, told by 'Only'. The exact laws' own helpers on profiles: opening, size, copy, comparison, marks. The exact laws' own helpers on profiles, further: copies, comparison, marks. The exact laws' own helpers on profiles, further: copies, comparison, marks: the walks. -/
import Derived.Test.YtcjnjnegaoihoaaGreatW31
import Derived.Test.YtcjnjnegaoihoaaGreatW01
import Derived.Test.YtcjnjnegaoihoaaGreatW07
import Derived.Test.YtcjnjnegaoihoaaGreatW02
import Derived.Lib.SmallJoins
import Derived.Test.YtcjnjnegaoihoaaGreatW17
import Derived.Test.YtcjnjnegaoihoaaGreatW03
import Derived.OwnWalk
import Derived.Deep.SlicePairs
namespace Go.Proofs.YtcjnjnegaoihoaaGreat
set_option linter.unusedSimpArgs false
set_option linter.unusedVariables false
set_option linter.unusedVariables false
open Go.RowKit

theorem playV_len (rule m : Int) (vs : List Vt) (k : Int) : (playV rule m vs k).length ≤ 1048576 ∧ ∀ v ∈ playV rule m vs k, v.r.length ≤ 1048576 := by
  unfold playV
  split
  · rename_i h
    unfold playOk at h
    rw [Bool.and_eq_true] at h
    obtain ⟨h1, h2⟩ := playTo_ok h.1 k.toNat
    have F := pf_of (playB_iff.1 h1).1
    have F0 := pf_of (playB_iff.1 h.1).1
    refine ⟨by have := F.n; omega, fun v hv => ?_⟩
    have := F.l v hv; have := F.m5; omega
  · simp
theorem specPlayC (rule m : Int) (A : Option Addr) (n c : Nat) (vs : List Vt) (k : Int) (w : World) (h : VotesAt w A n vs) (hn : n ≤ 1048576) (hx : ∀ v ∈ vs, v.r.length ≤ 1048576) :
    Calls Tryz.prog 14 #[.int .i64 rule, .agg #[.int .i64 m, .slice A n c], .int .i64 k] w fun e w' => ∃ A' c', e = .returned (.tuple #[.agg #[.int .i64 (playM rule m vs k), .slice A' (playV rule m vs k).length c'], .bool (playOk rule m vs k)]) ∧ OwnV w' w.heap.size w'.heap.size (.slice A' (playV rule m vs k).length c') (playV rule m vs k) ∧ (playV rule m vs k).length ≤ 1048576 ∧ (∀ v ∈ playV rule m vs k, v.r.length ≤ 1048576) ∧ Below w.heap.size w w' :=
  (specPlayReplies rule m A n c vs k w h hn hx).mono fun e w' ⟨A', c', h1, h2, h4⟩ => ⟨A', c', h1, h2, (playV_len rule m vs k).1, (playV_len rule m vs k).2, h4⟩
theorem implPlayC (rule m : Int) (A : Option Addr) (n c : Nat) (vs : List Vt) (k : Int) (w : World) (h : VotesAt w A n vs) (hn : n ≤ 1048576) (hx : ∀ v ∈ vs, v.r.length ≤ 1048576) :
    Calls Tryz.prog 15 #[.int .i64 rule, .agg #[.int .i64 m, .slice A n c], .int .i64 k] w fun e w' => ∃ A' c', e = .returned (.tuple #[.agg #[.int .i64 (playM rule m vs k), .slice A' (playV rule m vs k).length c'], .bool (playOk rule m vs k)]) ∧ OwnV w' w.heap.size w'.heap.size (.slice A' (playV rule m vs k).length c') (playV rule m vs k) ∧ (playV rule m vs k).length ≤ 1048576 ∧ (∀ v ∈ playV rule m vs k, v.r.length ≤ 1048576) ∧ Below w.heap.size w w' :=
  (implPlayReplies rule m A n c vs k w h hn hx).mono fun e w' ⟨A', c', h1, h2, h4⟩ => ⟨A', c', h1, h2, (playV_len rule m vs k).1, (playV_len rule m vs k).2, h4⟩
end Go.Proofs.YtcjnjnegaoihoaaGreat
namespace Go.Proofs.YtcjnjnegaoihoaaGreat
set_option linter.unusedSimpArgs false
set_option linter.unusedVariables false
set_option linter.unusedVariables false
open Go.RowKit

theorem copy_set (xs : List Int) (k : Nat) (hk : k < xs.length) (n : Nat) (hn : n = xs.length) : (xs.take k ++ List.replicate (n - k) 0).set k (ix xs k) = xs.take (k + 1) ++ List.replicate (n - (k + 1)) 0 := by
  subst hn
  apply List.ext_getElem?
  intro j
  rw [ix_lt hk]
  by_cases h1 : j < k
  · rw [List.getElem?_set_ne (by omega), List.getElem?_append_left (by simp; omega), List.getElem?_append_left (by simp; omega)]
    simp [h1, show j < k + 1 by omega]
  · by_cases h2 : j = k
    · subst h2
      rw [List.getElem?_set_self (by simp; omega), List.getElem?_append_left (by simp; omega)]
      simp [hk]
    · rw [List.getElem?_set_ne (by omega), List.getElem?_append_right (by simp; omega), List.getElem?_append_right (by simp; omega)]
      simp only [List.length_take, List.getElem?_replicate]
      have a1 : min k xs.length = k := by omega
      have a2 : min (k + 1) xs.length = k + 1 := by omega
      rw [a1, a2]
      by_cases h3 : j < xs.length
      · rw [if_pos (by omega), if_pos (by omega)]
      · rw [if_neg (by omega), if_neg (by omega)]

set_option maxHeartbeats 400000 in
theorem toIntS_any (A : Option Addr) (n c : Nat) (xs : List Int) (w : World) (h : IntsAt w A n xs) (hn : n ≤ 1048576) :
    Calls Tryz.prog 55 #[.slice A n c] w fun e w' => ∃ A' c', e = .returned (.slice A' n c') ∧ OwnI w' w.heap.size w'.heap.size (.slice A' n c') xs ∧ Below w.heap.size w w' := by
  go_enter Tryz.func55, Tryz.ntmps55
  go_wp2_with (first | (at_make; refine wpList_make_ints _ rfl _ _ rfl n rfl rfl (by omega) ?_) | go_in)
  intro w1 hown1 hb1 hz1
  go_wp2
  go_loopw [4] (fun i wr => ∃ k : Nat, k ≤ n ∧ i = .int .i64 k ∧ OwnI wr w.heap.size (w.heap.size + 1) (.slice (some ⟨w.heap.size, 0, none⟩) n n) (xs.take k ++ List.replicate (n - k) 0) ∧ w.heap.size + 1 ≤ wr.heap.size ∧ Below w.heap.size w wr)
    (fun i _ => n - (intOf i).toNat)
  case atStart => exact ⟨0, Nat.zero_le _, rfl, by simpa using hown1, by omega, hb1⟩
  case round =>
    obtain ⟨k, hk, rfl, hown, hz, hb⟩ := hrel
    clear hown1 hb1 hz1
    have hl := h.len
    by_cases hlt : k < n
    · obtain ⟨b, o, rfl, hbl, hc⟩ := (h.below hb).at_ hlt
      have hck := hc k hlt
      clear hc
      have hd := hown.cellAt k hlt
      have hf := hown.frozenAt k
      have hst := hown.stored k (ix xs k)
      rw [copy_set xs k (by omega) n hl.symm] at hst
      go_wp2
      go_roundw
      case rel => exact ⟨k + 1, by omega, by go_num, hst.1, by simpa using hz, hb.setCell (Nat.le_refl _) _⟩
      case measure => simp [intOf]; omega
    · obtain rfl : k = n := by omega
      go_wp2
      go_ret
      refine ⟨_, _, rfl, OwnI.mono ?_ (Nat.le_refl _) hz, hb⟩
      simpa [List.take_of_length_le, hl] using hown

theorem eqIntS_eq (A A' : Option Addr) (n n' c c' : Nat) (xs : List Int) (w : World) (h : IntsAt w A n xs) (h' : IntsAt w A' n' xs) (hn : n ≤ 1099511627776) :
    Calls Tryz.prog 9 #[.slice A n c, .slice A' n' c'] w fun e w' => e = .returned (.bool true) ∧ ∃ m, w' = w.drewN m := by
  obtain rfl : n' = n := by rw [← h.len, ← h'.len]
  go_enter Tryz.func9, Tryz.ntmps9
  go_wp2
  go_loopw [5] (fun i wr => ∃ k m : Nat, k ≤ n' ∧ i = .int .i64 k ∧ wr = w.drewN m) (fun i _ => n' - (intOf i).toNat)
  case atStart => exact ⟨0, 0, Nat.zero_le _, rfl, rfl⟩
  case round =>
    obtain ⟨k, m, hk, rfl, rfl⟩ := hrel
    by_cases hlt : k < n'
    · obtain ⟨b, o, rfl, _, hc⟩ := h.at_ hlt
      obtain ⟨b2, o2, rfl, _, hc2⟩ := h'.at_ hlt
      have hck := hc k hlt
      have hck2 := hc2 k hlt
      clear hc hc2
      go_wp2
      go_quiet (fail)
      go_wp2
      go_roundw
      case rel => exact ⟨k + 1, _, by omega, by go_num, rfl⟩
      case measure => simp [intOf]; omega
    · obtain rfl : k = n' := by omega
      go_wp2
      go_ret
      exact ⟨rfl, _, rfl⟩

def marks (k : Int) (n : Nat) : List Int := (List.range n).map fun (j : Nat) => k + (j : Int)
theorem marks_len (k : Int) (n : Nat) : (marks k n).length = n := by simp [marks]
theorem ix_marks (k : Int) (n j : Nat) (h : j < n) : ix (marks k n) j = k + (j : Int) := by rw [ix_lt (by rw [marks_len]; exact h)]; simp [marks]
theorem marks_set (k : Int) (xs : List Int) (j : Nat) (h : j < xs.length) : (marks k j ++ xs.drop j).set j (k + (j : Int)) = marks k (j + 1) ++ xs.drop (j + 1) := by
  have e := List.drop_eq_getElem_cons h
  rw [List.set_append_right _ _ (by simp [marks])]
  simp only [marks, List.length_map, List.length_range, Nat.sub_self, List.range_succ, List.map_append, List.map_cons, List.map_nil, List.append_assoc, List.cons_append, List.nil_append]
  rw [e]
  rfl

set_option maxHeartbeats 400000 in
theorem markIntS_any (A : Option Addr) (n c lo hi : Nat) (xs : List Int) (k0 : Int) (w : World) (h : OwnI w lo hi (.slice A n c) xs) (hn : n ≤ 1099511627776) (h0 : 0 ≤ k0) (h1 : k0 ≤ 1152921504606846976) :
    Calls Tryz.prog 12 #[.slice A n c, .int .i64 k0] w fun e w' => e = .returned (.int .i64 (k0 + n)) ∧ OwnI w' lo hi (.slice A n c) (marks k0 n) ∧ Only lo hi w w' := by
  have hl := h.ints.2.1
  go_enter Tryz.func12, Tryz.ntmps12
  go_wp2
  go_loopw [1, 5] (fun kk i wr => ∃ k : Nat, k ≤ n ∧ i = .int .i64 k ∧ kk = .int .i64 (k0 + k) ∧ OwnI wr lo hi (.slice A n c) (marks k0 k ++ xs.drop k) ∧ Only lo hi w wr)
    (fun _ i _ => n - (intOf i).toNat)
  case atStart => exact ⟨0, Nat.zero_le _, rfl, by simp, by simpa [marks] using h, Only.refl _ _ _⟩
  case round =>
    obtain ⟨k, hk, rfl, rfl, hown, hg⟩ := hrel
    by_cases hlt : k < n
    · obtain ⟨g, rfl, hg1, hg2⟩ := hown.head (by omega)
      have hd := hown.cellAt k hlt
      have hf := hown.frozenAt k
      have hst := hown.stored k (k0 + k)
      rw [marks_set k0 xs k (by omega)] at hst
      go_wp2
      go_roundw
      case rel => exact ⟨k + 1, by omega, by go_num, by go_num, hst.1, hg.trans (hst.2.mono hg1 (by omega))⟩
      case measure => simp [intOf]; omega
    · obtain rfl : k = n := by omega
      go_wp2
      go_ret
      refine ⟨by go_num, ?_, hg⟩
      rw [List.drop_of_length_le (by omega), List.append_nil] at hown
      exact hown

theorem heldIntS_any (A : Option Addr) (n c : Nat) (k0 : Int) (w : World) (h : IntsAt w A n (marks k0 n)) (hn : n ≤ 1099511627776) (h0 : 0 ≤ k0) (h1 : k0 ≤ 1152921504606846976) :
    Calls Tryz.prog 13 #[.slice A n c, .int .i64 k0] w fun e w' => e = .returned (.int .i64 (k0 + n)) ∧ w = w' := by
  go_enter Tryz.func13, Tryz.ntmps13
  go_wp2
  go_loop [1, 5] (fun kk i => ∃ k : Nat, k ≤ n ∧ i = .int .i64 k ∧ kk = .int .i64 (k0 + k)) (fun _ i => n - (intOf i).toNat)
  case atStart => exact ⟨0, Nat.zero_le _, rfl, by simp⟩
  case round =>
    obtain ⟨k, hk, rfl, rfl⟩ := hrel
    by_cases hlt : k < n
    · obtain ⟨b, o, rfl, _, hc⟩ := h.at_ hlt
      have hck := hc k hlt
      rw [ix_marks k0 n k hlt] at hck
      clear hc
      go_wp2
      go_round
      case rel => exact ⟨k + 1, by omega, by go_num, by go_num⟩
      case measure => simp [intOf]; omega
    · obtain rfl : k = n := by omega
      go_wp2
      go_ret
      exact ⟨by go_num, rfl⟩
end Go.Proofs.YtcjnjnegaoihoaaGreat
namespace Go.Proofs.YtcjnjnegaoihoaaGreat
set_option linter.unusedSimpArgs false
set_option linter.unusedVariables false
set_option linter.unusedVariables false
open Go.RowKit

theorem szIntS_any (A : Option Addr) (n c : Nat) (left : Int) (w : World) (hn : n ≤ 9223372036854775807) (h0 : 0 ≤ left) (h1 : left ≤ 1048576) :
    Calls Tryz.prog 51 #[.slice A n c, .int .i64 left] w fun e w' => ∃ r : Int, e = .returned (.int .i64 r) ∧ (0 ≤ r → r ≤ left ∧ n ≤ 1048576) ∧ r ≤ 1048576 ∧ w = w' := by
  go_enter Tryz.func51, Tryz.ntmps51
  by_cases h : left - n < 0
  · go_wp2
    go_ret
    exact ⟨_, rfl, fun hr => by omega, by omega, rfl⟩
  · have h' : 0 ≤ left - n := by omega
    go_wp2
    go_ret
    exact ⟨_, rfl, fun hr => by omega, by omega, rfl⟩


theorem rows_set (xss : List (List Int)) (k : Nat) (hk : k < xss.length) : (xss.take k ++ List.replicate (xss.length - k) []).set k (rx xss k) = xss.take (k + 1) ++ List.replicate (xss.length - (k + 1)) [] := by
  have e : xss.length - k = (xss.length - (k + 1)) + 1 := by omega
  rw [e, List.replicate_succ, List.set_append_right _ _ (by simp; omega), take_rx hk]
  simp [show min k xss.length = k by omega]



def marksR (k : Int) : List (List Int) → List (List Int)
  | [] => []
  | xs :: r => marks k xs.length :: marksR (k + xs.length) r
def endR (k : Int) : List (List Int) → Int
  | [] => k
  | xs :: r => endR (k + xs.length) r
theorem marksR_snoc (k : Int) (l : List (List Int)) (xs : List Int) : marksR k (l ++ [xs]) = marksR k l ++ [marks (endR k l) xs.length] := by
  induction l generalizing k with
  | nil => simp [marksR, endR]
  | cons y l ih => simp [marksR, endR, ih]
theorem endR_snoc (k : Int) (l : List (List Int)) (xs : List Int) : endR k (l ++ [xs]) = endR k l + xs.length := by
  induction l generalizing k with
  | nil => simp [endR]
  | cons y l ih => simp [endR, ih]
theorem marksR_len (k : Int) (l : List (List Int)) : (marksR k l).length = l.length := by
  induction l generalizing k with
  | nil => rfl
  | cons y l ih => simp [marksR, ih]
theorem rx_marksR (k : Int) (l : List (List Int)) (j : Nat) (h : j < l.length) : rx (marksR k l) j = marks (endR k (l.take j)) (rx l j).length := by
  induction l generalizing k j with
  | nil => simp at h
  | cons y l ih =>
    cases j with
    | zero => simp [marksR, rx, endR]
    | succ j =>
      have := ih (k + y.length) j (by simpa using h)
      simpa [marksR, rx, endR] using this
theorem endR_ge (k : Int) (l : List (List Int)) : k ≤ endR k l := by
  induction l generalizing k with
  | nil => simp [endR]
  | cons y l ih => have := ih (k + y.length); simp only [endR]; omega
theorem endR_le (k : Int) (l : List (List Int)) (b : Nat) (hx : ∀ xs ∈ l, xs.length ≤ b) : endR k l ≤ k + l.length * b := by
  induction l generalizing k with
  | nil => simp [endR]
  | cons y l ih =>
    have h1 := ih (k + y.length) (fun xs h => hx xs (by simp [h]))
    have h2 := hx y (by simp)
    simp only [endR, List.length_cons, Int.natCast_add, Int.add_mul]
    omega
theorem marksR_set (k0 : Int) (xss : List (List Int)) (k : Nat) (hk : k < xss.length) :
    (marksR k0 (xss.take k) ++ xss.drop k).set k (marks (endR k0 (xss.take k)) (rx xss k).length) = marksR k0 (xss.take (k + 1)) ++ xss.drop (k + 1) := by
  have e := List.drop_eq_getElem_cons hk
  have hl : (marksR k0 (xss.take k)).length = k := by rw [marksR_len]; simp; omega
  rw [take_rx hk, marksR_snoc, List.set_append_right _ _ (by omega), hl, Nat.sub_self, e]
  simp only [List.set_cons_zero, List.append_assoc, List.cons_append, List.nil_append]


end Go.Proofs.YtcjnjnegaoihoaaGreat
namespace Go.Proofs.YtcjnjnegaoihoaaGreat
set_option linter.unusedSimpArgs false
set_option linter.unusedVariables false
set_option linter.unusedVariables false
open Go.RowKit

theorem Only.setCell (w : World) (g j : Nat) (s : Option Nat) (u : Value) : Only g (g + 1) w (w.setCell ⟨g, j, s⟩ u) :=
  ⟨rfl, rfl, rfl, by simp [World.setCell], fun k _ hk => Below.heap_setCell _ _ _ _ (by simp; omega)⟩
theorem Only.drew {lo hi : Nat} {w w' : World} (h : Only lo hi w w') : Only lo hi w w'.drew := ⟨h.os, h.tape, h.output, h.size, h.block⟩

end Go.Proofs.YtcjnjnegaoihoaaGreat
namespace Go.Proofs.YtcjnjnegaoihoaaGreat
set_option linter.unusedSimpArgs false
set_option linter.unusedVariables false
set_option linter.unusedVariables false
open Go.RowKit Go.ChangeShapes Go.WideShapes Go.ChangeAt Go.Deep

theorem cellsVote : Tryz.prog.cellsOf 57 = 2 := by kernel_rfl
theorem votes_open {H : Type} {enc : TypeId × Value → H} {W : World} {v : Value} {n : Nat} {y : DataW H × List MemPlace}
    (h : DataW.trod enc Tryz.prog W 0 (fun _ => true) true n 22 [v] = some y) : ∃ a len cap vs, v = .slice a len cap ∧ VotesAt W a len vs ∧ (∀ x ∈ vs, x.r.length ≤ 9223372036854775807 ∧ (∀ u ∈ x.r, (Lit.int .i64 u).wf = true) ∧ (Lit.int .i64 x.c).wf = true) ∧ len ≤ cap ∧ cap ≤ maxLen := by
  rcases open_slice_pairs Tryz.underlying22 Tryz.underlying57 cellsVote rfl rfl (by kernel_rfl) (by kernel_rfl) h with ⟨hcs, _⟩ | ⟨a, len, cap, m, k, V0, V1, D0, D1, P0, P1, hcs, _, hl, hm, hmm, _, hx⟩
  · simp at hcs
    subst hcs
    exact ⟨none, 0, 0, [], rfl, ⟨rfl, fun h => absurd h (by omega)⟩, by simp, Nat.le_refl _, by unfold maxLen; omega⟩
  · simp at hcs
    subst hcs
    have hlm : len ≤ m := by rw [hmm]; split <;> omega
    have each : ∀ i, i < len → ∃ q : (Option Addr × Nat × Nat) × Vt, W.cell? (a.add (i * 2)) = some (.slice q.1.1 q.1.2.1 q.1.2.2) ∧ W.cell? (a.add (i * 2 + 1)) = some (.int .i64 q.2.c) ∧ IntsAt W q.1.1 q.1.2.1 q.2.r ∧ (∀ u ∈ q.2.r, (Lit.int .i64 u).wf = true) ∧ q.1.2.1 ≤ q.1.2.2 ∧ q.1.2.2 ≤ maxLen ∧ (Lit.int .i64 q.2.c).wf = true := by
      intro i hi
      obtain ⟨e0, e1, t0, t1⟩ := hx i (by omega)
      obtain ⟨x, l, c, zs, ev, hi1, hi2, hi3, hi4⟩ := ints_open_one t0
      obtain ⟨u, eu, _, hu⟩ := DataW.trod_int Tryz.underlying3 t1
      simp only [List.cons.injEq, and_true] at eu
      rw [ev] at e0
      rw [eu] at e1
      exact ⟨((x, l, c), ⟨zs, u⟩), e0, e1, hi1, hi2, hi3, hi4, hu⟩
    haveI : Inhabited Vt := ⟨⟨[], 0⟩⟩
    obtain ⟨q, hq⟩ := choose_lt each
    refine ⟨some a, len, cap, (List.range len).map fun i => (q i).2, rfl, ⟨by simp, fun hn => ?_⟩, fun x hx' => ?_, hl, hm⟩
    · obtain ⟨b, off, spot⟩ := a
      have hspot : spot = none := by
        have := (hq 0 (by omega)).1
        simpa [Addr.add] using World.cell?_spot this
      subst hspot
      refine ⟨b, off, rfl, fun j hj => ⟨(q j).1.1, (q j).1.2.1, (q j).1.2.2, ?_, ?_, (hq j hj).2.2.2.2.1, ?_⟩⟩
      · have := (hq j hj).1
        rwa [Go.WideShapes.add_plain] at this
      · have := (hq j hj).2.1
        rw [Go.WideShapes.add_plain] at this
        have e : vx ((List.range len).map fun i => (q i).2) j = (q j).2 := by unfold vx; simp [List.getD, hj]
        rw [e, Nat.add_assoc]
        exact this
      · have e : vx ((List.range len).map fun i => (q i).2) j = (q j).2 := by unfold vx; simp [List.getD, hj]
        rw [e]
        exact (hq j hj).2.2.1
    · obtain ⟨j, hj, rfl⟩ := List.mem_map.1 hx'
      have hj' : j < len := by simpa using hj
      obtain ⟨_, _, h3, h4, h5, h6, h7⟩ := hq j hj'
      refine ⟨?_, h4, h7⟩
      have := h3.len
      unfold maxLen at h6
      omega
set_option maxRecDepth 100000 in
theorem profile_open {H : Type} {enc : TypeId × Value → H} {W : World} {base : Nat} {v : Value} {d : DataW H} {p : List MemPlace}
    (hok : Value.okWide Tryz.prog W .any base 24 v) (h : DataW.Trod enc Tryz.prog W 0 (fun _ => true) true 24 v d p) :
    ∃ m a n c vs, v = .agg #[.int .i64 m, .slice a n c] ∧ (Lit.int .i64 m).wf = true ∧ VotesAt W a n vs ∧ (∀ x ∈ vs, x.r.length ≤ 9223372036854775807 ∧ (∀ u ∈ x.r, (Lit.int .i64 u).wf = true) ∧ (Lit.int .i64 x.c).wf = true) ∧ n ≤ c ∧ c ≤ maxLen := by
  obtain ⟨v0, v1, y0, y1, n, rfl, _, _, h0, h1⟩ := Joins.open_agg2 Tryz.underlying24 (by kernel_rfl) (by kernel_rfl) hok h
  obtain ⟨u, eu, _, hu⟩ := DataW.trod_int Tryz.underlying3 h0
  simp only [List.cons.injEq, and_true] at eu
  subst eu
  obtain ⟨a, l, c, vs, rfl, r1, r2, r3, r4⟩ := votes_open h1
  exact ⟨u, a, l, c, vs, rfl, hu, r1, r2, r3, r4⟩
set_option maxRecDepth 100000 in
theorem szVote_any (A : Option Addr) (n c : Nat) (cnt : Int) (left : Int) (w : World) (hn : n ≤ 9223372036854775807) (h0 : 0 ≤ left) (h1 : left ≤ 1048576) :
    Calls Tryz.prog 36 #[.agg #[.slice A n c, .int .i64 cnt], .int .i64 left] w fun e w' => ∃ r : Int, e = .returned (.int .i64 r) ∧ (0 ≤ r → r ≤ left ∧ n ≤ 1048576) ∧ r ≤ 1048576 ∧ Below w.heap.size w w' := by
  have hall := pair_below w (.slice A n c) (.int .i64 cnt) 57
  go_enter Tryz.func36, Tryz.ntmps36
  go_wp2_with fail
  (with_reducible refine (szIntS_any _ _ _ _ _ hn h0 h1).mono ?_)
  rintro e w' ⟨r, rfl, hr, hq, rfl⟩
  by_cases hneg : r < 0
  · go_wp2
    go_ret
    exact ⟨_, rfl, fun h => by omega, by omega, hall⟩
  have hnn : 0 ≤ r := by omega
  obtain ⟨e1, e2⟩ := hr hnn
  clear hr hneg
  go_wp2
  go_ret
  exact ⟨_, rfl, fun _ => ⟨e1, e2⟩, hq, hall⟩
set_option maxRecDepth 100000 in
theorem szVotes_any (A : Option Addr) (n c : Nat) (vs : List Vt) (left : Int) (w : World) (h : VotesAt w A n vs) (hn : n ≤ 9223372036854775807) (hx : ∀ v ∈ vs, v.r.length ≤ 9223372036854775807) (h0 : 0 ≤ left) (h1 : left ≤ 1048576) :
    Calls Tryz.prog 17 #[.slice A n c, .int .i64 left] w fun e w' => ∃ r : Int, e = .returned (.int .i64 r) ∧ (0 ≤ r → r ≤ left ∧ n ≤ 1048576 ∧ ∀ v ∈ vs, v.r.length ≤ 1048576) ∧ r ≤ 1048576 ∧ Below w.heap.size w w' := by
  obtain rfl := h.len
  have HX := Lib.hid hx
  clear hx
  by_cases h2 : left - vs.length < 0
  · go_enter Tryz.func17, Tryz.ntmps17
    go_wp2
    go_ret
    exact ⟨_, rfl, fun hr => by omega, by omega, Below.refl _ _⟩
  · have h' : 0 ≤ left - vs.length := by omega
    go_enter Tryz.func17, Tryz.ntmps17
    go_wp2
    go_loopw [1, 5] (fun l i wr => ∃ (k : Nat) (q : Int), k ≤ vs.length ∧ i = .int .i64 k ∧ l = .int .i64 q ∧ 0 ≤ q ∧ q ≤ left ∧ Hid (∀ v ∈ vs.take k, v.r.length ≤ 1048576) ∧ Below w.heap.size w wr) (fun _ i _ => vs.length - (intOf i).toNat)
    case atStart => exact ⟨0, _, Nat.zero_le _, rfl, rfl, h', by omega, Lib.hid (by simp), Below.refl _ _⟩
    case round =>
      obtain ⟨k, q, hk, rfl, rfl, hq0, hq1, HA, hb⟩ := hrel
      by_cases hlt : k < vs.length
      · obtain ⟨b, o, A', c', rfl, _, hc1, hc2, hcc, hin⟩ := (h.below hb).at_ hlt
        have hxk := HX.out _ (vx_mem hlt)
        have HT := Lib.hid (take_vx hlt)
        generalize vx vs k = v at *
        clear hin
        go_wp2_with fail
        (with_reducible refine (szVote_any _ _ _ _ _ _ hxk hq0 (by omega)).mono ?_)
        rintro e w' ⟨r, rfl, hr, hr2, hb2⟩
        replace hb := hb.trans (hb2.mono hb.size)
        clear hb2 hc1 hc2
        by_cases hneg : r < 0
        · go_wp2
          go_ret
          exact ⟨_, rfl, fun hr => by omega, by omega, hb⟩
        · have h3 : 0 ≤ r := by omega
          obtain ⟨hr4, hr5⟩ := hr h3
          clear hr hneg
          go_wp2
          go_roundw
          case rel => exact ⟨k + 1, _, by omega, by go_num, rfl, h3, by omega, Lib.hid (fun x hx => by
            rw [HT.out, List.mem_append] at hx
            rcases hx with hx | hx
            · exact HA.out x hx
            · simp at hx; subst hx; exact hr5), hb⟩
          case measure => simp [intOf]; omega
      · obtain rfl : k = vs.length := by omega
        go_wp2
        go_ret
        refine ⟨_, rfl, fun _ => ⟨hq1, by omega, fun x hx => HA.out x (by rwa [List.take_length])⟩, by omega, hb⟩
set_option maxRecDepth 100000 in
theorem szProfile_any (m : Int) (A : Option Addr) (n c : Nat) (vs : List Vt) (left : Int) (w : World) (h : VotesAt w A n vs) (hn : n ≤ 9223372036854775807) (hx : ∀ v ∈ vs, v.r.length ≤ 9223372036854775807) (h0 : 0 ≤ left) (h1 : left ≤ 1048576) :
    Calls Tryz.prog 5 #[.agg #[.int .i64 m, .slice A n c], .int .i64 left] w fun e w' => ∃ r : Int, e = .returned (.int .i64 r) ∧ (0 ≤ r → r ≤ left ∧ n ≤ 1048576 ∧ ∀ v ∈ vs, v.r.length ≤ 1048576) ∧ r ≤ 1048576 ∧ Below w.heap.size w w' := by
  have hall := pair_below w (.int .i64 m) (.slice A n c) 24
  have h2 := h.below hall
  have K := Lib.hid (szVotes_any A n c vs left _ h2 hn hx h0 h1)
  clear hx
  go_enter Tryz.func5, Tryz.ntmps5
  go_wp2_with fail
  (with_reducible refine K.out.mono ?_)
  rintro e w' ⟨r, rfl, hr, hq, hb⟩
  replace hall := hall.trans (hb.mono hall.size)
  have HR := Lib.hid hr
  clear hb hr
  by_cases hneg : r < 0
  · go_wp2
    go_ret
    exact ⟨_, rfl, fun h => by omega, by omega, hall⟩
  have hnn : 0 ≤ r := by omega
  go_wp2
  go_ret
  exact ⟨_, rfl, HR.out, hq, hall⟩
end Go.Proofs.YtcjnjnegaoihoaaGreat
namespace Go.Proofs.YtcjnjnegaoihoaaGreat
set_option linter.unusedSimpArgs false
set_option linter.unusedVariables false
set_option linter.unusedVariables false
open Go.RowKit

theorem madeCells_flatV (n : Nat) : (madeCells #[.slice none 0 0, .int .i64 0] (n * 2)).toList = flatV (List.replicate n ((.slice none 0 0, ⟨[], 0⟩) : VE)) := by
  apply List.ext_getElem?
  intro i
  by_cases hi : i < n * 2
  · have hd : i / 2 < n := by omega
    have hf := flatV_at (Z := List.replicate n ((.slice none 0 0, ⟨[], 0⟩) : VE)) (j := i / 2) (by simpa using hd)
    simp only [List.getElem_replicate] at hf
    have hl : (madeCells #[.slice none 0 0, .int .i64 0] (n * 2)).toList[i]? = some ((#[Value.slice none 0 0, .int .i64 0] : Array Value)[i % 2]!) := by
      simp [madeCells, hi]
    rw [hl]
    rcases Nat.mod_two_eq_zero_or_one i with h | h
    · rw [h, show i = i / 2 * 2 by omega, hf.1]; rfl
    · rw [h]
      have e : i = i / 2 * 2 + 1 := by omega
      rw [e, hf.2]; rfl
  · rw [List.getElem?_eq_none (by simp [size_madeCells]; omega), List.getElem?_eq_none (by rw [flatV_len]; simp; omega)]
theorem OwnV.made {w : World} {g n : Nat} (h1 : w.ownsRow g 46 2 (.slice (some ⟨g, 0, none⟩) n n) n (madeCells #[.slice none 0 0, .int .i64 0] (n * 2)).toList) : OwnV w g (g + 1) (.slice (some ⟨g, 0, none⟩) n n) (List.replicate n ⟨[], 0⟩) := by
  refine ⟨List.replicate n ((.slice none 0 0, ⟨[], 0⟩) : VE), by simp, ?_, fun k e => by simp [Value.ownBlock] at e; omega, fun p hp => ?_, ?_⟩
  · rw [List.length_replicate, ← madeCells_flatV]; exact h1
  · rw [List.eq_of_mem_replicate hp]; exact OwnI.nil _ _ _
  · rw [List.pairwise_iff_getElem]
    intro i j hi hj _
    rw [List.getElem_replicate]
    exact .inl rfl
/-- vote k with another count -/
def setC (vs : List Vt) (k : Nat) (c : Int) : List Vt := vs.set k ⟨(vx vs k).r, c⟩
theorem flatV_setC {Z : List VE} {j : Nat} (h : j < Z.length) (c : Int) : (flatV Z).set (j * 2 + 1) (.int .i64 c) = flatV (Z.set j (Z[j].1, ⟨Z[j].2.r, c⟩)) := by
  induction Z generalizing j with
  | nil => simp at h
  | cons p Z ih =>
    have e : flatV (p :: Z) = p.1 :: .int .i64 p.2.c :: flatV Z := rfl
    rw [e]
    cases j with
    | zero => rfl
    | succ j =>
      have := ih (j := j) (by simpa using h)
      rw [show (j + 1) * 2 + 1 = (j * 2 + 1) + 1 + 1 by omega, List.set_cons_succ, List.set_cons_succ, this]
      rfl
theorem OwnV.counted {w : World} {lo hi g n c : Nat} {vs : List Vt} (h : OwnV w lo hi (.slice (some ⟨g, 0, none⟩) n c) vs) (k : Nat) (hk : k < n) (x : Int) :
    OwnV (w.setCell ⟨g, k * 2 + 1, none⟩ (.int .i64 x)) lo hi (.slice (some ⟨g, 0, none⟩) n c) (setC vs k x) ∧ Only g (g + 1) w (w.setCell ⟨g, k * 2 + 1, none⟩ (.int .i64 x)) := by
  obtain rfl := h.num.1
  obtain ⟨Z, rfl, h1, h2', h3, h4⟩ := h
  rw [List.length_map] at hk h1
  have hst := World.ownsRow.stored h1 (k * 2 + 1) (.int .i64 x)
  have hkeep : ∀ {l h : Nat} {y : Value} {ys : List Int}, OwnI w l h y ys → OwnI (w.setCell ⟨g, k * 2 + 1, none⟩ (.int .i64 x)) l h y ys := fun {l h y ys} ho => by
    refine ⟨⟨ho.1.1, ?_⟩, ho.2⟩
    have hne := ne_blockV h1 ho
    rcases ho.1.2 with h0 | ⟨g', cap, cur, hv, hgb, hg, r⟩
    · exact .inl h0
    · exact .inr ⟨g', cap, cur, hv, hgb, by rw [Below.heap_setCell _ _ _ _ (by rintro rfl; exact hne (by rw [hv]; rfl))]; exact hg, r⟩
  have hvx : vx (Z.map Prod.snd) k = Z[k].2 := by rw [vx_lt (by simpa using hk)]; simp
  refine ⟨⟨Z.set k (Z[k].1, ⟨Z[k].2.r, x⟩), ?_, ?_, fun j e => h2' j (by rw [List.length_map]; simpa using e), fun p hp => ?_, ?_⟩, Only.of_grown hst.2 fun j e => by cases e; omega⟩
  · rw [List.map_set, setC, hvx]
  · rw [List.length_set, List.length_map, ← flatV_setC hk]
    exact hst.1
  · rcases List.mem_or_eq_of_mem_set hp with hp | rfl
    · exact hkeep (h3 p hp)
    · have := h3 _ (List.getElem_mem hk)
      exact hkeep this
  · rw [List.pairwise_iff_getElem] at h4 ⊢
    intro i j hi hj hij
    rw [List.length_set] at hi hj
    simp only [List.getElem_set]
    by_cases e1 : k = i
    · subst e1
      rw [if_pos rfl, if_neg (by omega)]
      exact h4 k j hi hj hij
    · rw [if_neg e1]
      by_cases e2 : k = j
      · subst e2
        rw [if_pos rfl]; exact h4 i k hi hk hij
      · rw [if_neg e2]; exact h4 i j hi hj hij
theorem OwnV.ccell {w : World} {lo hi g n c : Nat} {vs : List Vt} (h : OwnV w lo hi (.slice (some ⟨g, 0, none⟩) n c) vs) (j : Nat) (hj : j < n) :
    w.cell? ⟨g, j * 2 + 1, none⟩ = some (.int .i64 (vx vs j).c) ∧ w.frozen? ⟨g, j * 2 + 1, none⟩ = false := by
  obtain rfl := h.num.1
  obtain ⟨Z, rfl, h1, _⟩ := h
  rw [List.length_map] at hj h1
  have c1 := World.ownsRow.cellAt h1 (j * 2 + 1) (by omega)
  rw [(flatV_at hj).2] at c1
  have hvx : vx (Z.map Prod.snd) j = Z[j].2 := by rw [vx_lt (by simpa using hj)]; simp
  rw [hvx]
  exact ⟨c1, World.ownsRow.frozenAt h1 (j * 2 + 1)⟩
/-- the ranking of vote j, as the votes own it -/
theorem OwnV.row {w : World} {lo hi g n c : Nat} {vs : List Vt} (h : OwnV w lo hi (.slice (some ⟨g, 0, none⟩) n c) vs) (j : Nat) (hj : j < n) :
    ∃ A' c', w.cell? ⟨g, j * 2, none⟩ = some (.slice A' (vx vs j).r.length c') ∧ OwnI w lo hi (.slice A' (vx vs j).r.length c') (vx vs j).r := by
  obtain rfl := h.num.1
  obtain ⟨Z, rfl, h1, _, h3, _⟩ := h
  rw [List.length_map] at hj h1
  have c1 := World.ownsRow.cellAt h1 (j * 2) (by omega)
  rw [(flatV_at hj).1] at c1
  have hvx : vx (Z.map Prod.snd) j = Z[j].2 := by rw [vx_lt (by simpa using hj)]; simp
  have ho := h3 _ (List.getElem_mem hj)
  obtain ⟨A', c', e, _⟩ := ho.len
  rw [hvx]
  rw [e] at c1 ho
  exact ⟨A', c', c1, ho⟩
/-- vote j's ranking is written in place -/
theorem OwnV.inner {w w' : World} {lo hi g n c b m c' : Nat} {vs : List Vt} {ys : List Int} (h : OwnV w lo hi (.slice (some ⟨g, 0, none⟩) n c) vs) (j : Nat) (hj : j < n) (hc : w.cell? ⟨g, j * 2, none⟩ = some (.slice (some ⟨b, 0, none⟩) m c'))
    (ho : Only b (b + 1) w w') (hnew : OwnI w' b (b + 1) (.slice (some ⟨b, 0, none⟩) m c') ys) : OwnV w' lo hi (.slice (some ⟨g, 0, none⟩) n c) (setR vs j ys) := by
  obtain rfl := h.num.1
  obtain ⟨Z, rfl, h1, h2', h3, h4⟩ := h
  rw [List.length_map] at hj h1
  have hvx : vx (Z.map Prod.snd) j = Z[j].2 := by rw [vx_lt (by simpa using hj)]; simp
  have hx : Z[j].1 = .slice (some ⟨b, 0, none⟩) m c' := by
    rw [World.ownsRow.cellAt h1 (j * 2) (by omega), (flatV_at hj).1] at hc
    simpa using hc
  have hox := h3 _ (List.getElem_mem hj)
  rw [hx] at hox
  have hb := hox.block_ge b rfl
  have hne := ne_blockV h1 hox
  have hgb : g ≠ b := fun e => hne (by simp [Value.ownBlock]; omega)
  have hZs : Z.set j (Z[j].1, ⟨ys, Z[j].2.c⟩) = Z.set j (.slice (some ⟨b, 0, none⟩) m c', ⟨ys, Z[j].2.c⟩) := by rw [hx]
  refine ⟨Z.set j (Z[j].1, ⟨ys, Z[j].2.c⟩), ?_, ?_, fun k e => h2' k e, fun p hp => ?_, ?_⟩
  · rw [List.map_set, setR, hvx]
  · rw [List.length_set, List.length_map, ← flatV_set hj]
    have hsame : (flatV Z).set (j * 2) Z[j].1 = flatV Z := by
      have := (flatV_at hj).1
      obtain ⟨hl, e⟩ := List.getElem?_eq_some_iff.1 this
      rw [← e, List.set_getElem_self]
    rw [hsame]
    refine ⟨h1.1, ?_⟩
    rcases h1.2 with h0 | ⟨g', cap, cur, hv, hgb', hg, r⟩
    · exact .inl h0
    · cases hv
      refine .inr ⟨g, c, cur, rfl, hgb', ?_, r⟩
      rw [ho.block g (Array.getElem?_eq_some_iff.1 hg).1 (by omega)]
      exact hg
  · rw [hZs] at hp
    obtain ⟨i, hi, rfl⟩ := List.getElem_of_mem hp
    rw [List.length_set] at hi
    rw [List.getElem_set]
    by_cases e : j = i
    · subst e
      rw [if_pos rfl]
      exact hnew.mono hb.1 (by omega)
    · rw [if_neg e]
      have hoy := h3 _ (List.getElem_mem hi)
      refine ⟨⟨hoy.1.1, ?_⟩, hoy.2⟩
      rcases hoy.1.2 with h0 | ⟨g', cap, cur, hv, hgb', hg', r⟩
      · exact .inl h0
      · refine .inr ⟨g', cap, cur, hv, hgb', ?_, r⟩
        rw [ho.block g' (Array.getElem?_eq_some_iff.1 hg').1 ?_]
        · exact hg'
        · intro hbb
          have hg2 : g' = b := by omega
          rw [List.pairwise_iff_getElem] at h4
          have hap : Apart (Z[i]).1 (Z[j]).1 := by
            rcases Nat.lt_or_gt_of_ne e with h | h
            · exact (h4 j i hj hi h).symm
            · exact h4 i j hi hj h
          rcases hap with h | h
          · rw [hv] at h; simp [Value.ownBlock] at h
          · rw [hv, hx] at h
            simp [Value.ownBlock] at h
            omega
  · rw [List.pairwise_iff_getElem] at h4 ⊢
    intro i k hi hk hik
    rw [List.length_set] at hi hk
    have key : ∀ q (hq : q < Z.length), ((Z.set j (Z[j].1, ⟨ys, Z[j].2.c⟩))[q]'(by rw [List.length_set]; exact hq)).1 = (Z[q]).1 := fun q hq => by
      rw [List.getElem_set]
      by_cases e : j = q
      · subst e; rw [if_pos rfl]
      · rw [if_neg e]
    rw [key i hi, key k hk]
    exact h4 i k hi hk hik
theorem setR_same {vs : List Vt} {k : Nat} (hk : k < vs.length) {r : List Int} (h : (vx vs k).r = r) : setR vs k r = vs := by
  unfold setR
  rw [← h, vx_lt hk, List.set_getElem_self]
theorem OwnV.inner_any {w w' : World} {lo hi g n c m c' l2 h2 : Nat} {A2 : Option Addr} {vs : List Vt} {ys : List Int} (h : OwnV w lo hi (.slice (some ⟨g, 0, none⟩) n c) vs) (j : Nat) (hj : j < n) (hc : w.cell? ⟨g, j * 2, none⟩ = some (.slice A2 m c'))
    (ho : Only l2 h2 w w') (hnew : OwnI w' l2 h2 (.slice A2 m c') ys) (hA : (A2 = none ∧ l2 = h2) ∨ ∃ b, A2 = some ⟨b, 0, none⟩ ∧ l2 = b ∧ h2 = b + 1) : OwnV w' lo hi (.slice (some ⟨g, 0, none⟩) n c) (setR vs j ys) := by
  rcases hA with ⟨rfl, rfl⟩ | ⟨b, rfl, rfl, rfl⟩
  · obtain ⟨rfl, rfl, rfl⟩ := hnew.none_
    obtain ⟨A3, c3, e, hoj⟩ := h.row j hj
    rw [hc] at e
    injection e with e
    injection e with e1 e2 e3
    subst e1
    have e4 := hoj.none_.1
    obtain rfl := h.num.1
    rw [setR_same hj e4]
    exact h.keep fun k _ _ hs => ho.block k hs (by omega)
  · exact h.inner j hj hc ho hnew
/-- the votes' own block is no ranking's -/
theorem OwnV.not_inner {w : World} {lo hi g n c m c' : Nat} {A2 : Option Addr} {vs : List Vt} (h : OwnV w lo hi (.slice (some ⟨g, 0, none⟩) n c) vs) (j : Nat) (hj : j < n) (hc : w.cell? ⟨g, j * 2, none⟩ = some (.slice A2 m c')) {l2 h2 : Nat}
    (hA : (A2 = none ∧ l2 = h2) ∨ ∃ b, A2 = some ⟨b, 0, none⟩ ∧ l2 = b ∧ h2 = b + 1) : ¬ (l2 ≤ g ∧ g < h2) := by
  obtain ⟨A3, c3, e, ho⟩ := h.row j hj
  rw [hc] at e
  injection e with e
  injection e with e1 e2 e3
  subst e1
  obtain ⟨Z, _, h1, _⟩ := h
  have hn : Z.length = n := by have := h1.1; rw [flatV_len] at this; have := h1.2; rcases h1.2 with ⟨e, _⟩ | ⟨_, _, _, e, _⟩ <;> cases e; rfl
  rw [hn] at h1
  have hne := ne_blockV h1 ho
  rcases hA with ⟨rfl, e⟩ | ⟨b, rfl, rfl, rfl⟩
  · omega
  · intro hl
    exact hne (by simp [Value.ownBlock]; omega)
section
variable {ops : Array Oper} {rest : List Oper} {o : Oper} {a : Act} {Q : Exit → Act → World → Prop}
/-- 'make([]Vote, n)' -/
theorem wpList_make_votes (w : World) (hg : o.guard = none) (l c : Operand) (hop : o.op = Op.makeSlice 29 l c) (n : Nat)
    (hl : a.eval l = .int .i64 (n : Int)) (hc : a.eval c = .int .i64 (n : Int)) (hn : n ≤ 1048576)
    (hK : ∀ w', OwnV w' w.heap.size (w.heap.size + 1) (.slice (some ⟨w.heap.size, 0, none⟩) n n) (List.replicate n ⟨[], 0⟩) → Below w.heap.size w w' → w'.heap.size = w.heap.size + 1 → wpList Tryz.prog ops Q rest (a.put o.dst (.slice (some ⟨w.heap.size, 0, none⟩) n n)) w') :
    wpList Tryz.prog ops Q (o :: rest) a w := by
  obtain ⟨i0, hi0, hz0, hz1, hz2⟩ := info_parts infoV
  refine wpList_plain hg fun K hK' => ?_
  have hrun := run_make (P := Tryz.prog) w 29 46 i0 (.agg #[.slice none 0 0, .int .i64 0]) Tryz.underlying29 hi0 hz0 .i64 .i64 n n (by omega) (by omega) (by rw [hz2]; omega) (by omega)
  simp only [Int.toNat_natCast, hz1] at hrun
  unfold Oper.wp
  simp [execOp, hop, hl, hc, hrun, Result.andThen]
  refine hK' _ _ (hK _ (OwnV.made ?_) ((Below.refl _ _).alloc (Nat.le_refl _) _) (by simp))
  have h1 := World.ownsRow_lit (e := 46) (size := 2) (base := w.heap.size) w (madeCells #[Value.slice none 0 0, .int .i64 0] (n * 2)) n (Nat.le_refl _) (by unfold maxLen; omega) (by simp [size_madeCells])
  simpa [Value.cells] using h1
end
end Go.Proofs.YtcjnjnegaoihoaaGreat
namespace Go.Proofs.YtcjnjnegaoihoaaGreat
set_option linter.unusedSimpArgs false
set_option linter.unusedVariables false
set_option linter.unusedVariables false
open Go.RowKit

theorem Only.setCell' {lo hi : Nat} (w : World) (g j : Nat) (s : Option Nat) (u : Value) (h1 : lo ≤ g) (h2 : g < hi) : Only lo hi w (w.setCell ⟨g, j, s⟩ u) := (Only.setCell w g j s u).mono h1 (by omega)
set_option maxHeartbeats 800000 in
theorem toVote_any (A : Option Addr) (n c : Nat) (xs : List Int) (cnt : Int) (w : World) (h : IntsAt w A n xs) (hn : n ≤ 1048576) :
    Calls Tryz.prog 42 #[.agg #[.slice A n c, .int .i64 cnt]] w fun e w' => ∃ A1 c1, e = .returned (.agg #[.slice A1 n c1, .int .i64 cnt]) ∧ OwnI w' w.heap.size w'.heap.size (.slice A1 n c1) xs ∧ Below w.heap.size w w' := by
  have a1 := pair_below w (.slice A n c) (.int .i64 cnt) 57
  have a2 := a1.trans ((pair_below (w.alloc (.cells #[.slice A n c, .int .i64 cnt] 57)) (.slice none 0 0) (.int .i64 0) 46).mono (by simp))
  have a3 := a2.trans ((pair_below ((w.alloc (.cells #[.slice A n c, .int .i64 cnt] 57)).alloc (.cells #[.slice none 0 0, .int .i64 0] 46)) (.slice none 0 0) (.int .i64 0) 46).mono (by simp; omega))
  have p1 := new_pair w (.slice A n c) (.int .i64 cnt) 57 rfl
  have p2 := new_pair (w.alloc (.cells #[.slice A n c, .int .i64 cnt] 57)) (.slice none 0 0) (.int .i64 0) 46 (g := w.heap.size + 1) (by simp)
  have p3 := new_pair ((w.alloc (.cells #[.slice A n c, .int .i64 cnt] 57)).alloc (.cells #[.slice none 0 0, .int .i64 0] 46)) (.slice none 0 0) (.int .i64 0) 46 (g := w.heap.size + 1 + 1) (by simp)
  have x1 := old_cell (old_cell p1.2 (.cells #[.slice none 0 0, .int .i64 0] 46)) (.cells #[.slice none 0 0, .int .i64 0] 46)
  have y0 := old_cell p2.1 (.cells #[.slice none 0 0, .int .i64 0] 46)
  have y1 := old_cell p2.2 (.cells #[.slice none 0 0, .int .i64 0] 46)
  have fy0 := old_free p2.1 (new_free (w.alloc (.cells #[.slice A n c, .int .i64 cnt] 57)) _ 46 (by simp) 0) (.cells #[.slice none 0 0, .int .i64 0] 46)
  have fy1 := old_free p2.2 (new_free (w.alloc (.cells #[.slice A n c, .int .i64 cnt] 57)) _ 46 (by simp) 1) (.cells #[.slice none 0 0, .int .i64 0] 46)
  have fz0 := new_free ((w.alloc (.cells #[.slice A n c, .int .i64 cnt] 57)).alloc (.cells #[.slice none 0 0, .int .i64 0] 46)) #[.slice none 0 0, .int .i64 0] 46 (g := w.heap.size + 1 + 1) (by simp) 0
  have fz1 := new_free ((w.alloc (.cells #[.slice A n c, .int .i64 cnt] 57)).alloc (.cells #[.slice none 0 0, .int .i64 0] 46)) #[.slice none 0 0, .int .i64 0] 46 (g := w.heap.size + 1 + 1) (by simp) 1
  have hs3 : (((w.alloc (.cells #[.slice A n c, .int .i64 cnt] 57)).alloc (.cells #[.slice none 0 0, .int .i64 0] 46)).alloc (.cells #[.slice none 0 0, .int .i64 0] 46)).heap.size = w.heap.size + 3 := by simp
  have h3 := h.below a3
  clear a1 a2 p1 p2
  go_enter Tryz.func42, Tryz.ntmps42
  go_wp2_with fail
  (with_reducible refine (toIntS_any _ _ _ _ _ h3 hn).mono ?_)
  rintro e w1 ⟨A1, c1, rfl, o1, b1⟩
  rw [hs3] at o1
  have x1 := cell_carry b1 x1
  have y0 := cell_carry b1 y0
  have y1 := cell_carry b1 y1
  have z0 := cell_carry b1 p3.1
  have z1 := cell_carry b1 p3.2
  rw [hs3] at b1
  have fy0 := (b1.frozen (p := ⟨w.heap.size + 1, 0, none⟩) (by simp)).trans fy0
  have fy1 := (b1.frozen (p := ⟨w.heap.size + 1, 1, none⟩) (by simp)).trans fy1
  have fz0 := (b1.frozen (p := ⟨w.heap.size + 1 + 1, 0, none⟩) (by simp)).trans fz0
  have fz1 := (b1.frozen (p := ⟨w.heap.size + 1 + 1, 1, none⟩) (by simp)).trans fz1
  have s1 := b1.size
  rw [hs3] at s1
  have b2 := a3.trans (b1.mono (Nat.le_add_right _ _))
  clear b1 a3 p3 hs3 h3
  have xq := (World.cell?_setCell_other w1 ⟨w.heap.size + 1 + 1, 0, none⟩ ⟨w.heap.size, 1, none⟩ (Value.slice A1 n c1) (by simp)).trans x1
  have q1 := (World.cell?_setCell_other w1 ⟨w.heap.size + 1 + 1, 0, none⟩ ⟨w.heap.size + 1 + 1, 1, none⟩ (Value.slice A1 n c1) (by simp)).trans z1
  have e1 := pair_set z0 z1 (.slice A1 n c1) (.int .i64 cnt)
  have v0 := (World.cell?_setCell_other (w1.setCell ⟨w.heap.size + 1 + 1, 0, none⟩ (Value.slice A1 n c1)) ⟨w.heap.size + 1 + 1, 1, none⟩ ⟨w.heap.size + 1, 0, none⟩ (Value.int .i64 cnt) (by simp)).trans ((World.cell?_setCell_other w1 ⟨w.heap.size + 1 + 1, 0, none⟩ ⟨w.heap.size + 1, 0, none⟩ (Value.slice A1 n c1) (by simp)).trans y0)
  have v1 := (World.cell?_setCell_other (w1.setCell ⟨w.heap.size + 1 + 1, 0, none⟩ (Value.slice A1 n c1)) ⟨w.heap.size + 1 + 1, 1, none⟩ ⟨w.heap.size + 1, 1, none⟩ (Value.int .i64 cnt) (by simp)).trans ((World.cell?_setCell_other w1 ⟨w.heap.size + 1 + 1, 0, none⟩ ⟨w.heap.size + 1, 1, none⟩ (Value.slice A1 n c1) (by simp)).trans y1)
  have E2 := Lib.hid (pair_set v0 v1 (.slice A1 n c1) (.int .i64 cnt))
  obtain ⟨q2, q3⟩ := e1
  have n1 := Only.setCell w1 (w.heap.size + 1 + 1) 0 none (.slice A1 n c1)
  have n2 := Only.setCell (w1.setCell ⟨w.heap.size + 1 + 1, 0, none⟩ (.slice A1 n c1)) (w.heap.size + 1 + 1) 1 none (.int .i64 cnt)
  have n3 := Only.setCell ((w1.setCell ⟨w.heap.size + 1 + 1, 0, none⟩ (.slice A1 n c1)).setCell ⟨w.heap.size + 1 + 1, 1, none⟩ (.int .i64 cnt)) (w.heap.size + 1) 0 none (.slice A1 n c1)
  have n4 := Only.setCell (((w1.setCell ⟨w.heap.size + 1 + 1, 0, none⟩ (.slice A1 n c1)).setCell ⟨w.heap.size + 1 + 1, 1, none⟩ (.int .i64 cnt)).setCell ⟨w.heap.size + 1, 0, none⟩ (.slice A1 n c1)) (w.heap.size + 1) 1 none (.int .i64 cnt)
  have O6 := Lib.hid ((((o1.only n1 (by omega)).only n2 (by omega)).only n3 (by omega)).only n4 (by omega))
  have B6 := Lib.hid ((((b2.setCell (p := ⟨w.heap.size + 1 + 1, 0, none⟩) (by simp; omega) (.slice A1 n c1)).setCell (p := ⟨w.heap.size + 1 + 1, 1, none⟩) (by simp; omega) (.int .i64 cnt)).setCell (p := ⟨w.heap.size + 1, 0, none⟩) (by simp) (.slice A1 n c1)).setCell (p := ⟨w.heap.size + 1, 1, none⟩) (by simp) (.int .i64 cnt))
  have S6 := Lib.hid (Nat.le_trans (Nat.le_trans (Nat.le_trans n1.size n2.size) n3.size) n4.size)
  clear n1 n2 n3 n4 b2 o1 v0 v1
  go_wp2
  obtain ⟨e0, e1⟩ := E2.out
  exact bodyPost_ret (v := .agg #[.slice A1 n c1, .int .i64 cnt]) (by simp [results, Tryz.results42, go_sem, e0, e1]) rfl ⟨A1, c1, rfl, O6.out.mono (by omega) S6.out, B6.out⟩
theorem votes_set (vs : List Vt) (k : Nat) (hk : k < vs.length) : setC (setR (vs.take k ++ List.replicate (vs.length - k) (⟨[], 0⟩ : Vt)) k (vx vs k).r) k (vx vs k).c = vs.take (k + 1) ++ List.replicate (vs.length - (k + 1)) (⟨[], 0⟩ : Vt) := by
  have e : vs.length - k = (vs.length - (k + 1)) + 1 := by omega
  have hl : (vs.take k ++ List.replicate (vs.length - k) (⟨[], 0⟩ : Vt)).length = vs.length := by simp; omega
  have hv : ∀ x : Vt, vx ((vs.take k ++ List.replicate (vs.length - k) (⟨[], 0⟩ : Vt)).set k x) k = x := fun x => by rw [vx_lt (by rw [List.length_set, hl]; exact hk), List.getElem_set]; simp
  unfold setC setR
  rw [hv, List.set_set, e, List.replicate_succ, List.set_append_right _ _ (by simp; omega), take_vx hk]
  simp [show min k vs.length = k by omega]
set_option maxRecDepth 100000 in
set_option maxHeartbeats 800000 in
theorem toVotes_any (A : Option Addr) (n c : Nat) (vs : List Vt) (w : World) (h : VotesAt w A n vs) (hn : n ≤ 1048576) (hx : ∀ v ∈ vs, v.r.length ≤ 1048576) :
    Calls Tryz.prog 23 #[.slice A n c] w fun e w' => ∃ A' c', e = .returned (.slice A' n c') ∧ OwnV w' w.heap.size w'.heap.size (.slice A' n c') vs ∧ Below w.heap.size w w' := by
  obtain rfl := h.len
  have HX := Lib.hid hx
  clear hx
  go_enter Tryz.func23, Tryz.ntmps23
  go_wp2_with (first | (at_make; refine wpList_make_votes _ rfl _ _ rfl vs.length rfl rfl (by omega) ?_) | fail)
  intro w1 hown1 hb1 hz1
  go_wp2
  go_loopw [4] (fun i wr => ∃ k : Nat, k ≤ vs.length ∧ i = .int .i64 k ∧ OwnV wr w.heap.size wr.heap.size (.slice (some ⟨w.heap.size, 0, none⟩) vs.length vs.length) (vs.take k ++ List.replicate (vs.length - k) (⟨[], 0⟩ : Vt)) ∧ w.heap.size + 1 ≤ wr.heap.size ∧ Below w.heap.size w wr)
    (fun i _ => vs.length - (intOf i).toNat)
  case atStart => exact ⟨0, Nat.zero_le _, rfl, by simpa using hown1.mono (Nat.le_refl _) (by omega), by omega, hb1⟩
  case round =>
    obtain ⟨k, hk, rfl, hown, hz, hb⟩ := hrel
    clear hown1 hb1 hz1
    by_cases hlt : k < vs.length
    · obtain ⟨b, o, A', c', rfl, _, hc1, hc2, hcc, hin⟩ := (h.below hb).at_ hlt
      have hxk := HX.out _ (vx_mem hlt)
      have HVS := Lib.hid (votes_set vs k hlt)
      generalize vx vs k = v at *
      generalize vs.take k ++ List.replicate (vs.length - k) (⟨[], 0⟩ : Vt) = L0 at *
      have KV := Lib.hid (toVote_any A' v.r.length c' v.r v.c wr hin hxk)
      clear hin
      go_wp2_with fail
      (with_reducible refine KV.out.mono ?_)
      rintro e w' ⟨A2, c2, rfl, o2, b2⟩
      have hown2 := hown.belowW b2
      have s2 := b2.size
      obtain ⟨hst, on1⟩ := hown2.stored (H := w'.heap.size) k hlt o2 (Nat.le_refl _) (Nat.le_refl _) (by omega) s2
      obtain ⟨hst2, on2⟩ := hst.counted k hlt v.c
      obtain ⟨⟨u0, cu⟩, fu⟩ := hown2.cells k hlt
      obtain ⟨cc, fc⟩ := hst.ccell k hlt
      obtain ⟨cc2, fc2⟩ := hown2.ccell k hlt
      rw [HVS.out] at hst2
      have z2 : ((w'.setCell ⟨w.heap.size, k * 2, none⟩ (.slice A2 v.r.length c2)).setCell ⟨w.heap.size, k * 2 + 1, none⟩ (.int .i64 v.c)).heap.size = w'.heap.size := by simp [World.setCell]
      have HS := Lib.hid hst2
      have HB := Lib.hid (((hb.trans (b2.mono (by omega))).setCell (p := ⟨w.heap.size, k * 2, none⟩) (Nat.le_refl _) (.slice A2 v.r.length c2)).setCell (p := ⟨w.heap.size, k * 2 + 1, none⟩) (Nat.le_refl _) (.int .i64 v.c))
      have HZ := Lib.hid z2
      clear hst hst2 on1 on2 hown2 hown b2 KV o2 hc1 hc2 z2
      go_wp2
      go_roundw
      case rel => exact ⟨k + 1, by omega, by go_num, HS.out.mono (Nat.le_refl _) (Nat.le_of_eq HZ.out.symm), by rw [HZ.out]; omega, HB.out⟩
      case measure => simp [intOf]; omega
    · obtain rfl : k = vs.length := by omega
      go_wp2
      go_ret
      refine ⟨_, _, rfl, ?_, hb⟩
      simpa [List.take_of_length_le] using hown
end Go.Proofs.YtcjnjnegaoihoaaGreat
