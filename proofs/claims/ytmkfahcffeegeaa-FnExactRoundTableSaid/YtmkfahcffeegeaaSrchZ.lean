/- The reference's search for roundings: the end, where the table is full. -/
import Derived.Test.YtmkfahcffeegeaaRoundP
import Derived.Test.YtmkfahcffeegeaaIsRnd
import Derived.Test.YtmkfahcffeegeaaHdrAp
import Derived.Test.YtmkfahcffeegeaaPair
import Derived.Deep.DeepCutAuto
namespace Go.Proofs.Ytmkfahcffeegeaa
set_option linter.unusedVariables false
open Go.RowKit

def hdrF (b o c d k : Nat) : List Value := (List.range k).map fun i => Value.slice (some ⟨b, o + i * c, none⟩) c (d - i * c)
theorem hdrF_succ (b o c d k : Nat) : hdrF b o c d k ++ [Value.slice (some ⟨b, o + k * c, none⟩) c (d - k * c)] = hdrF b o c d (k + 1) := by
  unfold hdrF; rw [List.range_succ, List.map_append]; rfl
theorem ix_rowF {c j q : Nat} {l : List Int} (hq : q < c) : ix (rowF c l j) q = ix l (j * c + q) := by
  unfold ix rowF; simp [List.getD, List.getElem?_take, List.getElem?_drop, hq]
theorem rowF_at {w : World} {b o r c j : Nat} {l : List Int} (hi : IntsAt w (some ⟨b, o, none⟩) (r * c) l) (hj : j < r) : IntsAt w (some ⟨b, o + j * c, none⟩) c (rowF c l j) := by
  refine ⟨rowF_len hi.1 hj, fun _ => ⟨b, o + j * c, rfl, fun q hq => ?_⟩⟩
  have h1 : (j + 1) * c ≤ r * c := Nat.mul_le_mul_right c (by omega)
  rw [Nat.add_mul, Nat.one_mul] at h1
  obtain ⟨b', o', e, _, hc⟩ := hi.at_ (k := j * c + q) (by omega)
  cases e
  rw [ix_rowF hq, Nat.add_assoc]
  exact hc _ (by omega)
theorem rows_of_hdr {w : World} {lo b o r c d c' : Nat} {A : Option Addr} {l : List Int} (h : w.ownsRow lo 31 1 (.slice A r c') r (hdrF b o c d r)) (hi : IntsAt w (some ⟨b, o, none⟩) (r * c) l) (hd : r * c ≤ d) (hr : 1 ≤ r) :
    RowsAt w A r (rowsF c l r) := by
  refine ⟨rowsF_len _ _ _, fun _ => ?_⟩
  rcases h.2 with ⟨e, h0⟩ | ⟨g, cap, cur, e, _⟩
  · omega
  · cases e
    refine ⟨g, 0, rfl, fun j hj => ⟨some ⟨b, o + j * c, none⟩, c, d - j * c, ?_, ?_, ?_⟩⟩
    · have := World.ownsRow.cellAt h j (by omega)
      rw [Nat.zero_add, this]
      simp [hdrF, hj]
    · have h1 : (j + 1) * c ≤ r * c := Nat.mul_le_mul_right c (by omega)
      rw [Nat.add_mul, Nat.one_mul] at h1
      omega
    · have := rx_rowsF (c := c) (l := l) hj
      unfold rx at this
      rw [this]
      exact rowF_at hi hj
/-- the first rounding, as the search hands it back -/
def firstF (c r : Nat) (P : List (List Int)) (v : Value) (W : World) : Prop := match P with
  | [] => v = .slice none 0 0
  | m :: _ => ∃ A d, v = .slice A r d ∧ r ≤ d ∧ RowsAt W A r (rowsF c m r)
theorem firstF.below {c r : Nat} {P : List (List Int)} {v : Value} {W W' : World} (h : firstF c r P v W) (hb : Below W.heap.size W W') : firstF c r P v W' := by
  cases P with
  | nil => exact h
  | cons m P =>
    obtain ⟨A, d, e, h1, h2⟩ := h
    exact ⟨A, d, e, h1, h2.below hb⟩
theorem tab_small' {t : List (List Int)} {c r : Nat} (F : TabF t c r) : ∀ xs ∈ t, xs.length ≤ 1048576 := fun xs hxs => by
  obtain ⟨q, hq, rfl⟩ := List.getElem_of_mem hxs
  have := (F.row q (by rw [← F.rl]; exact hq)).1
  have c4 := F.c4
  rw [rx_lt hq] at this
  omega
theorem rowsF_small (c r : Nat) (l : List Int) (hc : c ≤ 4) : ∀ xs ∈ rowsF c l r, xs.length ≤ 1048576 := fun xs hxs => by
  simp only [rowsF, List.mem_map] at hxs
  obtain ⟨q, _, rfl⟩ := hxs
  unfold rowF
  rw [List.length_take]; omega
set_option maxRecDepth 100000 in
set_option maxHeartbeats 4000000 in
theorem srch_full {t : List (List Int)} {c r : Nat} (F : TabF t c r) (A : Option Addr) (cA : Nat) (l : List Int) (B : Option Addr) (d k : Nat) (w : World) (h : RowsAt w A r t) (hl : IntsAt w B (r * c) l) (hd : r * c ≤ d) (hk : 1 ≤ k) :
    Calls Try.prog 16 #[.slice A r cA, .slice B (r * c) d, .int .i64 (k : Int)] w fun e w' => ∃ v, e = .returned (.tuple #[v, .int .i64 ((min (goF t c r 0 l).length k : Nat) : Int)]) ∧ firstF c r (goF t c r 0 l) v w' ∧ Below w.heap.size w w' := by
  have c1 := F.c1
  have c4 := F.c4
  have r1 := F.r1
  have r4 := F.r4
  have HF := Lib.hid F
  have hm16 : r * c ≤ 4 * 4 := Nat.mul_le_mul r4 c4
  have hm1 : 1 * 1 ≤ r * c := Nat.mul_le_mul r1 c1
  obtain ⟨b, o, rfl, _, _⟩ := hl.at_ (k := 0) (by omega)
  obtain ⟨b1, o1, A0, d0, rfl, _, hck0, _, hin0⟩ := h.at_ (show 0 < r by omega)
  rw [(F.row 0 (by omega)).1, Nat.add_zero] at hck0
  have q1 : (r : Int) * (c : Int) = ((r * c : Nat) : Int) := by rw [Int.natCast_mul]
  obtain ⟨m, hm⟩ : ∃ m, r * c = m := ⟨_, rfl⟩
  have HM := Lib.hid hm
  have hlm : Hid (IntsAt w (some ⟨b, o, none⟩) (r * c) l) := hl
  rw [hm] at q1 hd hm16 hm1 ⊢
  clear hm hl
  have HR : Hid (∀ W A' c', Below w.heap.size w W → W.ownsRow w.heap.size 31 1 (.slice A' r c') r (hdrF b o c d r) → RowsAt W A' r (rowsF c l r)) := fun W A' c' hb ho => rows_of_hdr ho (hlm.out.below hb) (by rw [HM.out]; exact hd) r1
  clear hlm
  go_enter Try.func16, Try.ntmps16
  go_wp2
  go_loopw [9, 10, 32] (fun v _ i wr => ∃ (k : Nat) (A' : Option Addr) (c' : Nat), k ≤ r ∧ i = .int .i64 k ∧ v = .slice A' k c' ∧ wr.ownsRow w.heap.size 31 1 (.slice A' k c') k (hdrF b o c d k) ∧ Below w.heap.size w wr)
    (fun _ _ i _ => r - (intOf i).toNat)
  case atStart => exact ⟨0, _, 0, Nat.zero_le _, rfl, rfl, World.ownsRow_lit (e := 31) (size := 1) (base := w.heap.size) w #[] 0 (Nat.le_refl _) (by unfold maxLen; omega) rfl, (Below.refl _ _).alloc (Nat.le_refl _) _⟩
  case round =>
    obtain ⟨k1, A1, c', hk1, rfl, rfl, hown, hb⟩ := hrel
    by_cases hlt : k1 < r
    · have hsz := hb.size
      have hkr : (k1 : Int) < (r : Int) := by omega
      have e1 : (k1 : Int) * (c : Int) = ((k1 * c : Nat) : Int) := by rw [Int.natCast_mul]
      have e2 : ((k1 : Int) + 1) * (c : Int) = ((k1 * c : Nat) : Int) + (c : Int) := by rw [Int.add_mul, Int.one_mul, Int.natCast_mul]
      have e3 : (k1 + 1) * c ≤ r * c := Nat.mul_le_mul_right c (by omega)
      rw [Nat.add_mul, Nat.one_mul, HM.out] at e3
      have HS := Lib.hid (hdrF_succ b o c d k1)
      obtain ⟨q, hq⟩ : ∃ q, k1 * c = q := ⟨_, rfl⟩
      rw [hq] at e1 e2 e3
      have HQ := Lib.hid hq
      clear hq
      go_wp2_with (at_builtin; refine wpList_append_hdr _ rfl _ _ rfl w.heap.size k1 _ _ (hdrF b o c d k1) rfl (ownsRow_belowW hown ((Below.refl _ _).alloc (Nat.le_refl _) _)) _ 1 _ rfl (new_cell _ _ _ (by simp)) rfl (by omega) (by simp; omega) ?_)
      intro A2 c2 w2 ho2 hg _
      have hS2 := HS.out
      rw [HQ.out] at hS2
      rw [hS2] at ho2
      have hb3 : Below w.heap.size w w2 := (hb.alloc hsz _).grown hg (by simp; omega) (fun k e => by
        rcases hown.2 with ⟨e0, _⟩ | ⟨g', cap, cur, hv, hgb, _⟩
        · rw [e0] at e; simp [Value.ownBlock] at e
        · rw [hv] at e; simp [Value.ownBlock] at e; omega)
      clear hg hown hb hS2
      go_wp2
      go_roundw
      case rel => exact ⟨k1 + 1, _, _, by omega, by go_num, rfl, ho2, hb3⟩
      case measure => simp [intOf]; omega
    · obtain rfl : k1 = r := by omega
      have hR := HR.out wr A1 c' hb hown
      have K := Lib.hid (specIsRounding (some ⟨b1, o1, none⟩) k1 cA t A1 k1 c' (rowsF c l k1) wr (h.below hb) (by omega) (tab_small' HF.out) hR (by omega) (rowsF_small c k1 l c4))
      have hcc : k1 ≤ c' := by
        rcases hown.2 with ⟨e0, h0⟩ | ⟨g', cap, cur, e0, _, _, hc, _⟩
        · omega
        · cases e0; exact hc
      have hgo : Hid (goF t c k1 0 l = if isRounding t (rowsF c l k1) then [l] else []) := rfl
      obtain ⟨ok, hok⟩ : ∃ ok, isRounding t (rowsF c l k1) = ok := ⟨_, rfl⟩
      rw [hok] at K hgo
      clear hok hown
      go_wp2_with fail
      refine K.out.mono ?_
      rintro e w3 ⟨rfl, hb3⟩
      have hb4 := hb.trans (hb3.mono hb.size)
      have hR3 := hR.below hb3
      clear K hb hb3 hR
      cases ok
      · have HG : Hid (goF t c k1 0 l = []) := hgo
        go_wp2
        go_ret2
        refine ⟨.slice none 0 0, ?_, ?_, hb4⟩
        · rw [HG.out]; simp
        · rw [HG.out]; rfl
      · have HG : Hid (goF t c k1 0 l = [l]) := hgo
        go_wp2
        go_ret2
        refine ⟨.slice A1 k1 c', ?_, ?_, hb4⟩
        · rw [HG.out, List.length_singleton, Nat.min_eq_left hk]; rfl
        · rw [HG.out]; exact ⟨_, _, rfl, hcc, hR3⟩
end Go.Proofs.Ytmkfahcffeegeaa
