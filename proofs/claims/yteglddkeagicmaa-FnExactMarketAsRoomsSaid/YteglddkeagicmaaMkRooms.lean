/- A market as rooms for two: the program's side. -/
import Derived.Test.YteglddkeagicmaaDelete
import Derived.Test.YteglddkeagicmaaMkt
namespace Go.Proofs.Yteglddkeagicmaa
set_option linter.unusedVariables false
open Go.RowKit

theorem delete_any (n i g c : Nat) (w : World) (hi : i < n) (hn : n ≤ 3) (h : OwnI w g (g + 1) (.slice (some ⟨g, 0, none⟩) n c) (upTo n)) (hc : n ≤ c) :
    Calls Try.prog 70 #[.slice (some ⟨g, 0, none⟩) n c, .int .i64 (i : Int), .int .i64 ((i : Int) + 1)] w fun e w' => e = .returned (.slice (some ⟨g, 0, none⟩) (n - 1) c) ∧ OwnI w' g (g + 1) (.slice (some ⟨g, 0, none⟩) (n - 1) c) (cutAt (upTo n) i) ∧ Only g (g + 1) w w' := by
  obtain ⟨rfl, rfl⟩ | ⟨rfl, rfl⟩ | ⟨rfl, rfl⟩ | ⟨rfl, rfl⟩ | ⟨rfl, rfl⟩ | ⟨rfl, rfl⟩ : (n = 1 ∧ i = 0) ∨ (n = 2 ∧ i = 0) ∨ (n = 2 ∧ i = 1) ∨ (n = 3 ∧ i = 0) ∨ (n = 3 ∧ i = 1) ∨ (n = 3 ∧ i = 2) := by omega
  · exact delete_10 g c w h hc
  · exact delete_20 g c w h hc
  · exact delete_21 g c w h hc
  · exact delete_30 g c w h hc
  · exact delete_31 g c w h hc
  · exact delete_32 g c w h hc
def addTo (by_ : Int) (xs : List Int) : List Int := xs.map (· + by_)
theorem addTo_len {b : Int} {xs : List Int} : (addTo b xs).length = xs.length := by simp [addTo]
theorem addTo_take {b : Int} {xs : List Int} {k : Nat} (h : k < xs.length) : addTo b (xs.take (k + 1)) = addTo b (xs.take k) ++ [ix xs k + b] := by
  unfold addTo
  rw [take_ix h, List.map_append]; rfl
set_option maxHeartbeats 800000 in
theorem shifted_any (A : Option Addr) (n c : Nat) (xs : List Int) (b : Int) (w : World) (h : IntsAt w A n xs) (hn : n ≤ 1048576) (hx : ∀ j, j < xs.length → 0 ≤ ix xs j ∧ ix xs j ≤ 1000000) (b0 : 0 ≤ b) (b1 : b ≤ 1000000) :
    Calls Try.prog 57 #[.slice A n c, .int .i64 b] w fun e w' => ∃ A' c', e = .returned (.slice A' n c') ∧ OwnI w' w.heap.size w'.heap.size (.slice A' n c') (addTo b xs) ∧ Below w.heap.size w w' := by
  obtain rfl := h.len
  have HX := Lib.hid hx
  have HT := Lib.hid (fun k (hk : k < xs.length) => addTo_take (b := b) hk)
  have HE : Hid (addTo b (xs.take xs.length) = addTo b xs) := by show _ = _; rw [List.take_length]
  clear hx
  obtain ⟨T, hT⟩ : ∃ T : Nat → List Int, ∀ k, T k = addTo b (xs.take k) := ⟨_, fun _ => rfl⟩
  have HZ : Hid (T 0 = []) := by show _ = _; rw [hT]; simp [addTo]
  simp only [← hT] at HT HE
  clear hT
  go_enter Try.func57, Try.ntmps57
  go_wp2
  go_loopw [5, 7, 10] (fun v _ i wr => ∃ (k : Nat) (A' : Option Addr) (c' : Nat), k ≤ xs.length ∧ i = .int .i64 k ∧ v = .slice A' k c' ∧ OwnI wr w.heap.size wr.heap.size (.slice A' k c') (T k) ∧ Below w.heap.size w wr) (fun _ _ i _ => xs.length - (intOf i).toNat)
  case atStart => exact ⟨0, none, 0, Nat.zero_le _, rfl, rfl, by rw [HZ.out]; exact OwnI.nil _ _ _, Below.refl _ _⟩
  case round =>
    obtain ⟨k, A1, c1, hk, rfl, rfl, hown, hb⟩ := hrel
    have zr := hb.size
    by_cases hlt : k < xs.length
    · obtain ⟨bb, o, rfl, _, hcc⟩ := (h.below hb).at_ hlt
      have hck := hcc k hlt
      obtain ⟨v0, v1⟩ := HX.out k hlt
      have HTK := Lib.hid (HT.out k hlt)
      clear hcc
      have c0 := new_cell wr (.int .i64 (ix xs k + b)) 3 rfl
      have b2 := (Below.refl wr.heap.size wr).alloc (Nat.le_refl _) (.cells #[.int .i64 (ix xs k + b)] 3)
      have z2 := World.size_alloc wr (.cells #[.int .i64 (ix xs k + b)] 3)
      have o2 := hown.belowW b2
      have z3 : w.heap.size ≤ (wr.alloc (.cells #[.int .i64 (ix xs k + b)] 3)).heap.size := by omega
      have z4 : wr.heap.size ≤ (wr.alloc (.cells #[.int .i64 (ix xs k + b)] 3)).heap.size + 1 := by omega
      have bb2 := hb.trans (b2.mono zr)
      clear z2 b2 hown hb
      go_wp2_with (at_builtin; refine wpList_append_int _ rfl _ _ rfl w.heap.size wr.heap.size k c1 A1 (T k) rfl o2 (ix xs k + b) wr.heap.size 1 rfl c0 (by omega) z3 z4 ?_)
      intro A3 c3 w3 o3 hon
      rw [← HTK.out] at o3
      have b3 := bb2.trans (hon.toBelow (Nat.le_refl _) z3)
      clear hon o2 bb2 c0
      go_wp2
      go_roundw
      case rel => exact ⟨k + 1, _, _, by omega, by go_num, rfl, o3, b3⟩
      case measure => simp [intOf]; omega
    · obtain rfl : k = xs.length := by omega
      rw [HE.out] at hown
      go_wp2
      go_ret
      exact ⟨_, _, rfl, hown, hb⟩
theorem cut_bd {n i : Nat} (hn : n ≤ 3) : ∀ j, j < (cutAt (upTo n) i).length → 0 ≤ ix (cutAt (upTo n) i) j ∧ ix (cutAt (upTo n) i) j ≤ 1000000 := by
  intro j hj
  have hm := ix_mem hj
  have : ix (cutAt (upTo n) i) j ∈ upTo n := by
    unfold cutAt at hm
    rcases List.mem_append.1 hm with h | h
    · exact List.mem_of_mem_take h
    · exact List.mem_of_mem_drop h
  obtain ⟨a, ha, e⟩ := List.mem_map.1 this
  rw [List.mem_range] at ha
  have e2 : ((a : Nat) : Int) = ix (cutAt (upTo n) i) j := e
  omega
set_option maxHeartbeats 800000 in
theorem others_any (n i : Nat) (b : Int) (w : World) (hi : i < n) (hn : n ≤ 3) (b0 : 0 ≤ b) (b1 : b ≤ 1000000) :
    Calls Try.prog 58 #[.int .i64 (n : Int), .int .i64 (i : Int), .int .i64 b] w fun e w' => ∃ A' c', e = .returned (.slice A' (n - 1) c') ∧ OwnI w' w.heap.size w'.heap.size (.slice A' (n - 1) c') (addTo b (cutAt (upTo n) i)) ∧ Below w.heap.size w w' := by
  go_enter Try.func58, Try.ntmps58
  go_wp2_with fail
  (with_reducible refine (indices_any n _ (by omega)).mono ?_)
  rintro e w1 ⟨A1, c1, rfl, o1, h1⟩
  obtain ⟨g, rfl, hg1, hg2⟩ := o1.head (by omega)
  have hc := o1.ints.2.2.1
  have o2 := o1.tight
  have z1 := h1.size
  go_wp2_with fail
  (with_reducible refine (delete_any n i g c1 _ hi hn o2 hc).mono ?_)
  rintro e w2 ⟨rfl, o3, n3⟩
  have h2 := h1.trans (n3.toBelow (B := w.heap.size) hg1 z1)
  have i3 := o3.at_
  have CB := Lib.hid (cut_bd (n := n) (i := i) hn)
  have z2 := h2.size
  clear n3 o2 o1 h1
  go_wp2_with fail
  (with_reducible refine (shifted_any _ _ c1 _ b _ i3 (by omega) CB.out b0 b1).mono ?_)
  rintro e w3 ⟨A3, c3, rfl, o4, h3⟩
  have h4 := h2.trans (h3.mono z2)
  clear h2 h3
  go_wp2
  go_ret
  exact ⟨_, _, rfl, o4.mono z2 (Nat.le_refl _), h4⟩
end Go.Proofs.Yteglddkeagicmaa
