/- The distance of seats from the quotas. -/
import Derived.Test.YtkjgngkiiecckaaKeeps
import Derived.Test.YtkjgngkiiecckaaQuotaOf
namespace Go.Proofs.Ytkjgngkiiecckaa
set_option linter.unusedVariables false
open Go.RowKit

def distD (d : Int) : Int := max d (-d)
def distTo (xs ys : List Int) (s n : Int) : Nat → Int
  | 0 => 0
  | k + 1 => distTo xs ys s n k + distD (ix ys k * s - ix xs k * n)
theorem dist_bd {x y s n : Int} (hx : 0 ≤ x ∧ x ≤ 1000000) (hy : 0 ≤ y ∧ y ≤ 100) (s0 : 1 ≤ s) (s1 : s ≤ 6000000) (n0 : 0 ≤ n) (n1 : n ≤ 100) :
    0 ≤ y * s ∧ y * s ≤ 600000000 ∧ 0 ≤ x * n ∧ x * n ≤ 100000000 := by
  have a1 := Int.mul_nonneg hx.1 n0
  have a2 := Int.mul_le_mul hx.2 n1 n0 (by omega)
  have b1 := Int.mul_nonneg hy.1 (show 0 ≤ s by omega)
  have b2 := Int.mul_le_mul hy.2 s1 (show 0 ≤ s by omega) (by omega)
  exact ⟨b1, by omega, a1, by omega⟩
theorem distTo_bd {xs ys : List Int} {s n : Int} (hl : ys.length = xs.length) (hx : ∀ x ∈ xs, 0 ≤ x ∧ x ≤ 1000000) (hy : ∀ y ∈ ys, 0 ≤ y ∧ y ≤ 100) (s0 : 1 ≤ s) (s1 : s ≤ 6000000) (n0 : 0 ≤ n) (n1 : n ≤ 100)
    (k : Nat) (hk : k ≤ ys.length) : 0 ≤ distTo xs ys s n k ∧ distTo xs ys s n k ≤ k * 600000000 := by
  induction k with
  | zero => simp [distTo]
  | succ k ih =>
    have h := ih (by omega)
    have b := dist_bd (hx _ (ix_mem (show k < xs.length by omega))) (hy _ (ix_mem (show k < ys.length by omega))) s0 s1 n0 n1
    simp only [distTo, distD]
    omega

def distOn (xs ys : List Int) : Bool := seatsOk xs ys && !(lsum ys == 0)
def distN (xs ys : List Int) : Nat := (distTo xs ys (lsum xs) (lsum ys) ys.length).toNat
def distB (xs ys : List Int) : Nat := (2 * lsum ys * lsum xs).toNat
def distTop (xs ys : List Int) : Nat := if distOn xs ys then redTop (distN xs ys) (distB xs ys) else 0
def distBot (xs ys : List Int) : Nat := if distOn xs ys then redBot (distN xs ys) (distB xs ys) else 0
def distGot (xs ys : List Int) : Bool := distOn xs ys && redOk (distN xs ys) (distB xs ys)
theorem dist_no {xs ys : List Int} (h : distOn xs ys = false) : distTop xs ys = 0 ∧ distBot xs ys = 0 ∧ distGot xs ys = false := by
  unfold distTop distBot distGot; rw [h]; exact ⟨rfl, rfl, rfl⟩
theorem dist_facts {xs ys : List Int} (hs : seatsOk xs ys = true) (h0 : (lsum ys == 0) = false) :
    ∃ t b : Nat, distTo xs ys (lsum xs) (lsum ys) ys.length = t ∧ 2 * lsum ys * lsum xs = b ∧ t ≤ 3600000000 ∧ 1 ≤ b ∧ b ≤ 1200000000 ∧
      distTop xs ys = redTop t b ∧ distBot xs ys = redBot t b ∧ distGot xs ys = redOk t b := by
  obtain ⟨h1, h2, h3, h4, h5, h6⟩ := seatsOk_facts hs
  obtain ⟨c1, c2, c3, c4, c5⟩ := countsOk_facts h1
  have hne : lsum ys ≠ 0 := by simpa using h0
  have hb := distTo_bd h2 c3 h4 c4 c5 h5 h6 ys.length (Nat.le_refl _)
  have m1 := Int.mul_le_mul (show 2 * lsum ys ≤ 200 by omega) c5 (by omega) (by omega)
  have m2 := Int.mul_le_mul (show (2 : Int) ≤ 2 * lsum ys by omega) c4 (by omega) (by omega)
  have hon : distOn xs ys = true := by unfold distOn; rw [hs, h0]; rfl
  refine ⟨distN xs ys, distB xs ys, ?_, ?_, ?_, ?_, ?_, ?_, ?_, ?_⟩
  · unfold distN; omega
  · unfold distB; omega
  · unfold distN; omega
  · unfold distB; omega
  · unfold distB; omega
  · unfold distTop; rw [if_pos hon]
  · unfold distBot; rw [if_pos hon]
  · unfold distGot; rw [hon]; rfl

set_option maxHeartbeats 800000 in
theorem implDistanceOf (A : Option Addr) (n c : Nat) (xs : List Int) (B : Option Addr) (m d : Nat) (ys : List Int) (w : World) (h : IntsAt w A n xs) (hn : n ≤ 1048576) (g : IntsAt w B m ys) (hm : m ≤ 1048576) :
    Calls Try.prog 28 #[.slice A n c, .slice B m d] w fun e w' =>
      e = .returned (.tuple #[.agg #[.int .i64 (distTop xs ys : Int), .int .i64 (distBot xs ys : Int)], .bool (distGot xs ys)]) ∧ Below w.heap.size w w' := by
  obtain rfl := h.len
  obtain rfl := g.len
  have hs0 : (w.alloc (Obj.cells #[Value.int IntKind.i64 0, Value.int IntKind.i64 0] 30)).heap.size = w.heap.size + 1 := World.size_alloc _ _
  have hall : Below w.heap.size w (w.alloc (Obj.cells #[Value.int IntKind.i64 0, Value.int IntKind.i64 0] 30)) := (Below.refl _ _).alloc (Nat.le_refl _) _
  have h0 := h.below hall
  have g0 := g.below hall
  cases hs : seatsOk xs ys
  · obtain ⟨e1, e2, e3⟩ := dist_no (xs := xs) (ys := ys) (by unfold distOn; rw [hs]; rfl)
    rw [e1, e2, e3]
    clear e1 e2 e3
    go_enter Try.func28, Try.ntmps28
    go_wp2_with fail
    refine (seatsAsked_any _ _ _ _ _ _ _ _ _ h0 hn g0 hm).mono ?_
    rintro e w1 ⟨rfl, hb⟩
    rw [hs]
    rw [hs0] at hb
    obtain ⟨c0, c1, f0, f1⟩ := pair_later hb
    have HB := Lib.hid (hall.trans (hb.mono (Nat.le_succ _)))
    clear hb hall
    go_wp2
    obtain ⟨e0, e1⟩ := pair_set c0 c1 (.int .i64 0) (.int .i64 0)
    exact bodyPost_ret (v := .tuple #[.agg #[.int .i64 0, .int .i64 0], .bool false]) (by simp [results, Try.results28, go_sem, e0, e1]) rfl ⟨rfl, (HB.out.setCell (Nat.le_refl _) _).setCell (Nat.le_refl _) _⟩
  obtain ⟨s1, s2, s3, s4, s5, s6⟩ := seatsOk_facts hs
  obtain ⟨q1, q2, q3, q4, q5⟩ := countsOk_facts s1
  have HX := Lib.hid s3
  have HC := Lib.hid (counts_bd s1)
  cases hz : (lsum ys == 0)
  case true =>
    obtain ⟨e1, e2, e3⟩ := dist_no (xs := xs) (ys := ys) (by unfold distOn; rw [hs, hz]; rfl)
    rw [e1, e2, e3]
    clear e1 e2 e3 s1 s2 s3 s4 q3
    go_enter Try.func28, Try.ntmps28
    go_wp2_with fail
    refine (seatsAsked_any _ _ _ _ _ _ _ _ _ h0 hn g0 hm).mono ?_
    rintro e w1 ⟨rfl, hb⟩
    rw [hs]
    have g1 := g0.below hb
    rw [hs0] at hb
    obtain ⟨c0, c1, f0, f1⟩ := pair_later hb
    have HB := Lib.hid (hall.trans (hb.mono (Nat.le_succ _)))
    clear hb hall
    go_wp2_with fail
    refine (sumOf_any _ _ _ _ _ g1 hm HX.out).mono ?_
    rintro e w2 ⟨rfl, rfl⟩
    go_wp2
    obtain ⟨e0, e1⟩ := pair_set c0 c1 (.int .i64 0) (.int .i64 0)
    exact bodyPost_ret (v := .tuple #[.agg #[.int .i64 0, .int .i64 0], .bool false]) (by simp [results, Try.results28, go_sem, e0, e1]) rfl ⟨rfl, (HB.out.setCell (Nat.le_refl _) _).setCell (Nat.le_refl _) _⟩
  obtain ⟨t, b, ht, hbb, t1, b0, b1, e1, e2, e3⟩ := dist_facts hs hz
  rw [e1, e2, e3]
  clear e1 e2 e3
  have HT := Lib.hid ht
  have HBB := Lib.hid hbb
  have HD := Lib.hid (fun k hk => distTo_bd (k := k) s2 q3 s4 q4 q5 s5 s6 hk)
  have HE := Lib.hid s2
  have H4 := Lib.hid s4
  have H3 := Lib.hid q3
  clear ht hbb s1 s2 s3 s4 q3
  go_enter Try.func28, Try.ntmps28
  go_wp2_with fail
  refine (seatsAsked_any _ _ _ _ _ _ _ _ _ h0 hn g0 hm).mono ?_
  rintro e w1 ⟨rfl, hb⟩
  rw [hs]
  have g1 := g0.below hb
  have h1 := h0.below hb
  have z1 := hb.size
  rw [hs0] at hb z1
  have HK := Lib.hid hb
  clear hb h0 g0
  go_wp2_with fail
  refine (sumOf_any _ _ _ _ _ g1 hm HX.out).mono ?_
  rintro e w2 ⟨rfl, rfl⟩
  go_wp2
  go_loopw [6, 7, 8, 9, 22] (fun a _ _ _ i wr => ∃ k : Nat, k ≤ ys.length ∧ i = .int .i64 k ∧ a = .int .i64 (distTo xs ys (lsum xs) (lsum ys) k) ∧ Below w1.heap.size w1 wr) (fun _ _ _ _ i _ => ys.length - (intOf i).toNat)
  case atStart => exact ⟨0, Nat.zero_le _, rfl, rfl, Below.refl _ _⟩
  case round =>
    obtain ⟨k, hk, rfl, rfl, hbw⟩ := hrel
    have h2 := h1.below hbw
    have g2 := g1.below hbw
    by_cases hlt : k < ys.length
    · obtain ⟨x, o, rfl, _, hc0⟩ := h2.at_ (show k < xs.length by have := HE.out; omega)
      obtain ⟨y, o', rfl, _, hc1⟩ := g2.at_ hlt
      have k0 := hc0 k (show k < xs.length by have := HE.out; omega)
      have k1 := hc1 k hlt
      clear hc0 hc1
      have hi1 : (0 : Int) ≤ (k : Int) := by omega
      have hi2 : (k : Int) < (ys.length : Int) := by omega
      have hi3 : (k : Int) < (xs.length : Int) := by have := HE.out; omega
      have bd := dist_bd (H3.out _ (ix_mem (show k < xs.length by have := HE.out; omega))) (H4.out _ (ix_mem hlt)) q4 q5 s5 s6
      have w1' : IntKind.i64.wrap (ix ys k * lsum xs) = ix ys k * lsum xs := IntWalk.i64_in _ (by omega)
      have w2' : IntKind.i64.wrap (ix xs k * lsum ys) = ix xs k * lsum ys := IntWalk.i64_in _ (by omega)
      have w3' : IntKind.i64.wrap (ix ys k * lsum xs - ix xs k * lsum ys) = ix ys k * lsum xs - ix xs k * lsum ys := IntWalk.i64_in _ (by omega)
      have K1 := Lib.hid (fun n => Calls.quiet_of_same (n := n) ((sumOf_any _ _ c _ _ (h2.drewN n) hn HC.out).mono fun _ _ ⟨he, hw⟩ => ⟨he, hw.symm⟩))
      have K2 := Lib.hid (fun n => Calls.quiet_of_same (n := n) ((sumOf_any _ _ d _ _ (g2.drewN n) hm HX.out).mono fun _ _ ⟨he, hw⟩ => ⟨he, hw.symm⟩))
      have W1 := Lib.hid w1'
      have W2 := Lib.hid w2'
      have W3 := Lib.hid w3'
      clear w1' w2' w3'
      go_wp2
      go_quiet ((first | (with_reducible exact K1.out _) | (with_reducible exact K2.out _)))
      try simp only [W1.out, W2.out, W3.out]
      have dk := HD.out k hk
      go_wp2
      have hst : distTo xs ys (lsum xs) (lsum ys) (k + 1) = distTo xs ys (lsum xs) (lsum ys) k + max (ix ys k * lsum xs - ix xs k * lsum ys) (-(ix ys k * lsum xs - ix xs k * lsum ys)) := rfl
      have HST := Lib.hid hst
      clear hst
      go_roundw
      case rel => exact ⟨k + 1, by omega, by go_num, by rw [HST.out, max_if], hbw.trans (below_of_drewN rfl)⟩
      case measure => simp [intOf]; omega
    · obtain rfl : k = ys.length := by omega
      have m0 : 0 ≤ 2 * lsum ys * lsum xs ∧ 2 * lsum ys * lsum xs ≤ 1200000000 := by have := HBB.out; omega
      have t0 : 0 ≤ distTo xs ys (lsum xs) (lsum ys) ys.length ∧ distTo xs ys (lsum xs) (lsum ys) ys.length ≤ 3600000000 := by have := HT.out; omega
      have s2 := hbw.size
      go_wp2_with (first
        | (go_at_call 42; (first | (with_reducible refine (sumOf_any _ _ c _ _ h2 hn HC.out).mono ?_) | (with_reducible refine (sumOf_any _ _ d _ _ g2 hm HX.out).mono ?_)); rintro e w' ⟨rfl, rfl⟩)
        | (go_at_call 41; rw [HT.out, HBB.out]; refine (reduced_any t b _ (by omega) (by omega) b0).mono ?_; rintro e w2 ⟨rfl, hb2⟩; have hb3 := hb2.mono (B' := w.heap.size + 1) (by omega); have hb4 := hbw.mono (B' := w.heap.size + 1) z1; obtain ⟨c0, c1, f0, f1⟩ := pair_later (HK.out.trans (hb4.trans hb3)); have HB := Lib.hid (hall.trans ((HK.out.trans (hb4.trans hb3)).mono (Nat.le_succ _))); clear hb2 hb3 hb4))
      obtain ⟨e0, e1⟩ := pair_set c0 c1 (.int .i64 (redTop t b : Nat)) (.int .i64 (redBot t b : Nat))
      exact bodyPost_ret (v := .tuple #[.agg #[.int .i64 (redTop t b : Nat), .int .i64 (redBot t b : Nat)], .bool (redOk t b)]) (by simp [results, Try.results28, go_sem, e0, e1]) rfl ⟨rfl, (HB.out.setCell (Nat.le_refl _) _).setCell (Nat.le_refl _) _⟩
set_option maxHeartbeats 800000 in
theorem specDistanceOf (A : Option Addr) (n c : Nat) (xs : List Int) (B : Option Addr) (m d : Nat) (ys : List Int) (w : World) (h : IntsAt w A n xs) (hn : n ≤ 1048576) (g : IntsAt w B m ys) (hm : m ≤ 1048576) :
    Calls Try.prog 27 #[.slice A n c, .slice B m d] w fun e w' =>
      e = .returned (.tuple #[.agg #[.int .i64 (distTop xs ys : Int), .int .i64 (distBot xs ys : Int)], .bool (distGot xs ys)]) ∧ Below w.heap.size w w' := by
  obtain rfl := h.len
  obtain rfl := g.len
  have hs0 : (w.alloc (Obj.cells #[Value.int IntKind.i64 0, Value.int IntKind.i64 0] 30)).heap.size = w.heap.size + 1 := World.size_alloc _ _
  have hall : Below w.heap.size w (w.alloc (Obj.cells #[Value.int IntKind.i64 0, Value.int IntKind.i64 0] 30)) := (Below.refl _ _).alloc (Nat.le_refl _) _
  have h0 := h.below hall
  have g0 := g.below hall
  cases hs : seatsOk xs ys
  · obtain ⟨e1, e2, e3⟩ := dist_no (xs := xs) (ys := ys) (by unfold distOn; rw [hs]; rfl)
    rw [e1, e2, e3]
    clear e1 e2 e3
    go_enter Try.func27, Try.ntmps27
    go_wp2_with fail
    refine (l13Seats_any _ _ _ _ _ _ _ _ _ h0 hn g0 hm).mono ?_
    rintro e w1 ⟨rfl, hw1⟩
    have hb : Below (w.alloc (Obj.cells #[Value.int IntKind.i64 0, Value.int IntKind.i64 0] 30)).heap.size (w.alloc (Obj.cells #[Value.int IntKind.i64 0, Value.int IntKind.i64 0] 30)) w1 := hw1 ▸ Below.refl _ _
    clear hw1
    rw [hs]
    rw [hs0] at hb
    obtain ⟨c0, c1, f0, f1⟩ := pair_later hb
    have HB := Lib.hid (hall.trans (hb.mono (Nat.le_succ _)))
    clear hb hall
    go_wp2
    obtain ⟨e0, e1⟩ := pair_set c0 c1 (.int .i64 0) (.int .i64 0)
    exact bodyPost_ret (v := .tuple #[.agg #[.int .i64 0, .int .i64 0], .bool false]) (by simp [results, Try.results27, go_sem, e0, e1]) rfl ⟨rfl, (HB.out.setCell (Nat.le_refl _) _).setCell (Nat.le_refl _) _⟩
  obtain ⟨s1, s2, s3, s4, s5, s6⟩ := seatsOk_facts hs
  obtain ⟨q1, q2, q3, q4, q5⟩ := countsOk_facts s1
  have HX := Lib.hid s3
  have HC := Lib.hid (counts_bd s1)
  cases hz : (lsum ys == 0)
  case true =>
    obtain ⟨e1, e2, e3⟩ := dist_no (xs := xs) (ys := ys) (by unfold distOn; rw [hs, hz]; rfl)
    rw [e1, e2, e3]
    clear e1 e2 e3 s1 s2 s3 s4 q3
    go_enter Try.func27, Try.ntmps27
    go_wp2_with fail
    refine (l13Seats_any _ _ _ _ _ _ _ _ _ h0 hn g0 hm).mono ?_
    rintro e w1 ⟨rfl, hw1⟩
    have hb : Below (w.alloc (Obj.cells #[Value.int IntKind.i64 0, Value.int IntKind.i64 0] 30)).heap.size (w.alloc (Obj.cells #[Value.int IntKind.i64 0, Value.int IntKind.i64 0] 30)) w1 := hw1 ▸ Below.refl _ _
    clear hw1
    rw [hs]
    have g1 := g0.below hb
    rw [hs0] at hb
    obtain ⟨c0, c1, f0, f1⟩ := pair_later hb
    have HB := Lib.hid (hall.trans (hb.mono (Nat.le_succ _)))
    clear hb hall
    go_wp2_with fail
    refine (l13Sum_any _ _ _ _ _ g1 hm HX.out).mono ?_
    rintro e w2 ⟨rfl, rfl⟩
    go_wp2
    obtain ⟨e0, e1⟩ := pair_set c0 c1 (.int .i64 0) (.int .i64 0)
    exact bodyPost_ret (v := .tuple #[.agg #[.int .i64 0, .int .i64 0], .bool false]) (by simp [results, Try.results27, go_sem, e0, e1]) rfl ⟨rfl, (HB.out.setCell (Nat.le_refl _) _).setCell (Nat.le_refl _) _⟩
  obtain ⟨t, b, ht, hbb, t1, b0, b1, e1, e2, e3⟩ := dist_facts hs hz
  rw [e1, e2, e3]
  clear e1 e2 e3
  have HT := Lib.hid ht
  have HBB := Lib.hid hbb
  have HD := Lib.hid (fun k hk => distTo_bd (k := k) s2 q3 s4 q4 q5 s5 s6 hk)
  have HE := Lib.hid s2
  have H4 := Lib.hid s4
  have H3 := Lib.hid q3
  clear ht hbb s1 s2 s3 s4 q3
  go_enter Try.func27, Try.ntmps27
  go_wp2_with fail
  refine (l13Seats_any _ _ _ _ _ _ _ _ _ h0 hn g0 hm).mono ?_
  rintro e w1 ⟨rfl, hw1⟩
  have hb : Below (w.alloc (Obj.cells #[Value.int IntKind.i64 0, Value.int IntKind.i64 0] 30)).heap.size (w.alloc (Obj.cells #[Value.int IntKind.i64 0, Value.int IntKind.i64 0] 30)) w1 := hw1 ▸ Below.refl _ _
  clear hw1
  rw [hs]
  have g1 := g0.below hb
  have h1 := h0.below hb
  have z1 := hb.size
  rw [hs0] at hb z1
  have HK := Lib.hid hb
  clear hb h0 g0
  go_wp2_with fail
  refine (l13Sum_any _ _ _ _ _ g1 hm HX.out).mono ?_
  rintro e w2 ⟨rfl, rfl⟩
  go_wp2_with fail
  refine (l13Sum_any _ _ _ _ _ g1 hm HX.out).mono ?_
  rintro e w2 ⟨rfl, rfl⟩
  go_wp2_with fail
  refine (l13Sum_any _ _ _ _ _ h1 hn HC.out).mono ?_
  rintro e w2 ⟨rfl, rfl⟩
  go_wp2
  go_loopw [8, 9, 10, 27] (fun a _ _ i wr => ∃ k : Nat, k ≤ ys.length ∧ i = .int .i64 k ∧ a = .int .i64 (distTo xs ys (lsum xs) (lsum ys) k) ∧ Below w1.heap.size w1 wr) (fun _ _ _ i _ => ys.length - (intOf i).toNat)
  case atStart => exact ⟨0, Nat.zero_le _, rfl, rfl, Below.refl _ _⟩
  case round =>
    obtain ⟨k, hk, rfl, rfl, hbw⟩ := hrel
    have h2 := h1.below hbw
    have g2 := g1.below hbw
    by_cases hlt : k < ys.length
    · obtain ⟨x, o, rfl, _, hc0⟩ := h2.at_ (show k < xs.length by have := HE.out; omega)
      obtain ⟨y, o', rfl, _, hc1⟩ := g2.at_ hlt
      have k0 := hc0 k (show k < xs.length by have := HE.out; omega)
      have k1 := hc1 k hlt
      clear hc0 hc1
      have hi1 : (0 : Int) ≤ (k : Int) := by omega
      have hi2 : (k : Int) < (ys.length : Int) := by omega
      have hi3 : (k : Int) < (xs.length : Int) := by have := HE.out; omega
      have bd := dist_bd (H3.out _ (ix_mem (show k < xs.length by have := HE.out; omega))) (H4.out _ (ix_mem hlt)) q4 q5 s5 s6
      have dk := HD.out k hk
      have e1 : max (ix ys k * lsum xs - ix xs k * lsum ys) (ix xs k * lsum ys - ix ys k * lsum xs) = distD (ix ys k * lsum xs - ix xs k * lsum ys) := by unfold distD; omega
      have E1 := Lib.hid e1
      clear e1
      go_wp2
      go_quiet (fail)
      go_wp2
      have hst : distTo xs ys (lsum xs) (lsum ys) (k + 1) = distTo xs ys (lsum xs) (lsum ys) k + max (ix ys k * lsum xs - ix xs k * lsum ys) (ix xs k * lsum ys - ix ys k * lsum xs) := by rw [E1.out]; rfl
      have HST := Lib.hid hst
      clear hst
      go_roundw
      case rel => exact ⟨k + 1, by omega, by go_num, by rw [HST.out, max_if], hbw.trans (below_of_drewN rfl)⟩
      case measure => simp [intOf]; omega
    · obtain rfl : k = ys.length := by omega
      have m0 : 0 ≤ 2 * lsum ys * lsum xs ∧ 2 * lsum ys * lsum xs ≤ 1200000000 := by have := HBB.out; omega
      have t0 : 0 ≤ distTo xs ys (lsum xs) (lsum ys) ys.length ∧ distTo xs ys (lsum xs) (lsum ys) ys.length ≤ 3600000000 := by have := HT.out; omega
      have s2 := hbw.size
      go_wp2_with (first
        | (go_at_call 39; rw [HT.out, HBB.out]; refine (l02Make_any t b _ (by omega) (by omega) b0).mono ?_; rintro e w2 ⟨rfl, hb2⟩; have hb3 := hb2.mono (B' := w.heap.size + 1) (by omega); have hb4 := hbw.mono (B' := w.heap.size + 1) z1; obtain ⟨c0, c1, f0, f1⟩ := pair_later (HK.out.trans (hb4.trans hb3)); have HB := Lib.hid (hall.trans ((HK.out.trans (hb4.trans hb3)).mono (Nat.le_succ _))); clear hb2 hb3 hb4))
      obtain ⟨e0, e1⟩ := pair_set c0 c1 (.int .i64 (redTop t b : Nat)) (.int .i64 (redBot t b : Nat))
      exact bodyPost_ret (v := .tuple #[.agg #[.int .i64 (redTop t b : Nat), .int .i64 (redBot t b : Nat)], .bool (redOk t b)]) (by simp [results, Try.results27, go_sem, e0, e1]) rfl ⟨rfl, (HB.out.setCell (Nat.le_refl _) _).setCell (Nat.le_refl _) _⟩
end Go.Proofs.Ytkjgngkiiecckaa
