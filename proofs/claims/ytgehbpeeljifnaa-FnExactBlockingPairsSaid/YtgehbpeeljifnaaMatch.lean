/- Matchings, and a matching turned round. -/
import Derived.Test.YtgehbpeeljifnaaMarket
namespace Go.Proofs.Ytgehbpeeljifnaa
set_option linter.unusedVariables false
open Go.RowKit

set_option maxHeartbeats 800000 in
theorem implIsMatching (A : Option Addr) (n c : Nat) (xss : List (List Int)) (B : Option Addr) (m d : Nat) (yss : List (List Int)) (C : Option Addr) (l e : Nat) (zs : List Int) (w : World) (h : RowsAt w A n xss) (hn : n ≤ 1048576) (hx : ∀ xs ∈ xss, xs.length ≤ 1048576)
    (g : RowsAt w B m yss) (hm : m ≤ 1048576) (hy : ∀ xs ∈ yss, xs.length ≤ 1048576) (q : IntsAt w C l zs) (hl : l ≤ 1048576) (hc : l ≤ e) :
    Calls Try.prog 24 #[.agg #[.slice A n c, .slice B m d], .slice C l e] w fun e w' => e = .returned (.bool (matchOk xss yss zs)) ∧ Below w.heap.size w w' := by
  obtain rfl := h.len
  obtain rfl := g.len
  obtain rfl := q.len
  have HX := Lib.hid hx
  have HY := Lib.hid hy
  clear hx hy
  unfold matchOk
  have hall := pair_below w (.slice A xss.length c) (.slice B yss.length d) 32
  have hs0 := pair_size w (.slice A xss.length c) (.slice B yss.length d) 32
  have h0 := h.below hall
  have g0 := g.below hall
  have q0 := q.below hall
  cases h1 : marketOk xss yss
  · go_enter Try.func24, Try.ntmps24
    go_wp2_with fail
    (with_reducible refine (implMarketOk _ _ _ _ _ _ _ _ _ h0 hn HX.out g0 hm HY.out).mono ?_)
    rintro e w1 ⟨rfl, hb⟩
    rw [h1]
    have hb2 := hall.trans (hb.mono (by omega))
    clear hb hall hs0
    go_wp2
    go_ret
    exact ⟨rfl, hb2⟩
  · go_enter Try.func24, Try.ntmps24
    go_wp2_with fail
    (with_reducible refine (implMarketOk _ _ _ _ _ _ _ _ _ h0 hn HX.out g0 hm HY.out).mono ?_)
    rintro e w1 ⟨rfl, hb⟩
    rw [h1]
    have q1 := q0.below hb
    rw [hs0] at hb
    obtain ⟨c0, c1, f0, f1⟩ := pair_later hb
    have hb2 := hall.trans (hb.mono (by omega))
    clear hb hall hs0
    go_wp2_with fail
    (with_reducible refine (implRankingOk _ _ _ _ _ _ q1 hl hc).mono ?_)
    rintro e w2 ⟨rfl, rfl⟩
    have hb3 := hb2
    go_wp2
    go_ret
    exact ⟨rfl, hb3⟩
set_option maxHeartbeats 800000 in
theorem specIsMatching (A : Option Addr) (n c : Nat) (xss : List (List Int)) (B : Option Addr) (m d : Nat) (yss : List (List Int)) (C : Option Addr) (l e : Nat) (zs : List Int) (w : World) (h : RowsAt w A n xss) (hn : n ≤ 1048576) (hx : ∀ xs ∈ xss, xs.length ≤ 1048576)
    (g : RowsAt w B m yss) (hm : m ≤ 1048576) (hy : ∀ xs ∈ yss, xs.length ≤ 1048576) (q : IntsAt w C l zs) (hl : l ≤ 1048576) (hc : l ≤ e) :
    Calls Try.prog 23 #[.agg #[.slice A n c, .slice B m d], .slice C l e] w fun e w' => e = .returned (.bool (matchOk xss yss zs)) ∧ Below w.heap.size w w' := by
  obtain rfl := h.len
  obtain rfl := g.len
  obtain rfl := q.len
  have HX := Lib.hid hx
  have HY := Lib.hid hy
  clear hx hy
  unfold matchOk
  have hall := pair_below w (.slice A xss.length c) (.slice B yss.length d) 32
  have hs0 := pair_size w (.slice A xss.length c) (.slice B yss.length d) 32
  have h0 := h.below hall
  have g0 := g.below hall
  have q0 := q.below hall
  cases h1 : marketOk xss yss
  · go_enter Try.func23, Try.ntmps23
    go_wp2_with fail
    (with_reducible refine (specMarketOk _ _ _ _ _ _ _ _ _ h0 hn HX.out g0 hm HY.out).mono ?_)
    rintro e w1 ⟨rfl, hb⟩
    rw [h1]
    have hb2 := hall.trans (hb.mono (by omega))
    clear hb hall hs0
    go_wp2
    go_ret
    exact ⟨rfl, hb2⟩
  · go_enter Try.func23, Try.ntmps23
    go_wp2_with fail
    (with_reducible refine (specMarketOk _ _ _ _ _ _ _ _ _ h0 hn HX.out g0 hm HY.out).mono ?_)
    rintro e w1 ⟨rfl, hb⟩
    rw [h1]
    have q1 := q0.below hb
    rw [hs0] at hb
    obtain ⟨c0, c1, f0, f1⟩ := pair_later hb
    have hb2 := hall.trans (hb.mono (by omega))
    clear hb hall hs0
    go_wp2_with fail
    (with_reducible refine (specRankingOk _ _ _ _ _ _ q1 hl hc).mono ?_)
    rintro e w2 ⟨rfl, hb⟩
    have hb3 := hb2.trans (hb.mono hb2.size)
    clear hb hb2
    go_wp2
    go_ret
    exact ⟨rfl, hb3⟩

/-- after k numbers: of each number below, at which place it stood -/
def invTo (xs : List Int) : Nat → List Int
  | 0 => List.replicate xs.length 0
  | k + 1 => (invTo xs k).set (ix xs k).toNat (k : Int)
theorem invTo_len (xs : List Int) (k : Nat) : (invTo xs k).length = xs.length := by
  induction k with
  | zero => simp [invTo]
  | succ k ih => simp [invTo, ih]
def turnOf (xs : List Int) : List Int := if rankOk xs.length xs then invTo xs xs.length else []
theorem turnOf_yes {xs : List Int} (h : rankOk xs.length xs = true) : turnOf xs = invTo xs xs.length := by unfold turnOf; rw [if_pos h]
theorem turnOf_no {xs : List Int} (h : rankOk xs.length xs = false) : turnOf xs = [] := by unfold turnOf; rw [h]; rfl
set_option maxHeartbeats 400000 in
theorem implTurnMatching (A : Option Addr) (n c : Nat) (xs : List Int) (w : World) (h : IntsAt w A n xs) (hn : n ≤ 1048576) (hc : n ≤ c) :
    Calls Try.prog 14 #[.slice A n c] w fun e w' => ∃ A' c', e = .returned (.slice A' (turnOf xs).length c') ∧ OwnI w' w.heap.size w'.heap.size (.slice A' (turnOf xs).length c') (turnOf xs) ∧ (turnOf xs).length ≤ 1048576 ∧ Below w.heap.size w w' := by
  obtain rfl := h.len
  cases hr : rankOk xs.length xs
  · rw [turnOf_no hr]
    go_enter Try.func14, Try.ntmps14
    go_wp2_with fail
    (with_reducible refine (isRanking_any _ _ _ _ _ h hn hc).mono ?_)
    rintro e w1 ⟨rfl, rfl⟩
    rw [hr]
    go_wp2
    go_ret
    exact ⟨none, 0, rfl, OwnI.nil _ _ _, by simp, Below.refl _ _⟩
  · rw [turnOf_yes hr, invTo_len]
    obtain ⟨f1, f2, _, f4⟩ := rankOk_facts hr
    have F := Lib.hid f4
    clear f4
    go_enter Try.func14, Try.ntmps14
    go_wp2_with fail
    (with_reducible refine (isRanking_any _ _ _ _ _ h hn hc).mono ?_)
    rintro e w1 ⟨rfl, rfl⟩
    rw [hr]
    have hb0 : Below w.heap.size w w := Below.refl _ _
    have h1 := h.below hb0
    have s0 := hb0.size
    go_wp2_with ((with_reducible refine wpList_make_ints _ rfl _ _ rfl xs.length rfl rfl (by omega) ?_); intro w2 ho hb1 hs1)
    have hb2 := hb0.trans (hb1.mono s0)
    have h2 := h1.below hb1
    have z2 := hb2.size
    clear hb0 hb1 
    rw [show List.replicate xs.length 0 = invTo xs 0 from rfl] at ho
    go_loopw [4, 5, 14] (fun _ _ i wr => ∃ k : Nat, k ≤ xs.length ∧ i = .int .i64 k ∧ OwnI wr w.heap.size (w.heap.size + 1) (.slice (some ⟨w.heap.size, 0, none⟩) xs.length xs.length) (invTo xs k) ∧ Below w.heap.size w wr ∧ IntsAt wr A xs.length xs) (fun _ _ i _ => xs.length - (intOf i).toNat)
    case atStart => exact ⟨0, Nat.zero_le _, rfl, ho, hb2, h2⟩
    case round =>
      obtain ⟨k, hk, rfl, hown, hb, hr⟩ := hrel
      have zr := hb.size
      by_cases hlt : k < xs.length
      · obtain ⟨b, o, rfl, _, hcc⟩ := hr.at_ hlt
        have hck := hcc k hlt
        clear hcc
        obtain ⟨x0, x1⟩ := F.out k hlt
        obtain ⟨j, hj⟩ : ∃ j : Nat, ix xs k = (j : Int) := ⟨(ix xs k).toNat, by omega⟩
        have hjl : j < xs.length := by omega
        have cj := hown.cellAt j hjl
        have fj := hown.frozenAt j
        rw [hj] at hck
        have hst := hown.stored j (k : Int)
        have e : (invTo xs k).set j (k : Int) = invTo xs (k + 1) := by show _ = (invTo xs k).set (ix xs k).toNat (k : Int); rw [hj]; rfl
        rw [e] at hst
        obtain ⟨ho2, hon⟩ := hst
        have hb2 := Lib.hid (hb.trans (hon.toBelow (B := w.heap.size) s0 zr))
        have HO := Lib.hid ho2
        clear hown hon ho2 hj x0 x1 e
        go_wp2
        go_roundw
        case rel => exact ⟨k + 1, by omega, by go_num, HO.out, hb2.out, h.below hb2.out⟩
        case measure => simp [intOf]; omega
      · obtain rfl : k = xs.length := by omega
        go_wp2
        go_ret
        exact ⟨_, _, rfl, hown.mono (by omega) (by have := hown.num; omega), hn, hb⟩
set_option maxHeartbeats 400000 in
theorem specTurnMatching (A : Option Addr) (n c : Nat) (xs : List Int) (w : World) (h : IntsAt w A n xs) (hn : n ≤ 1048576) (hc : n ≤ c) :
    Calls Try.prog 12 #[.slice A n c] w fun e w' => ∃ A' c', e = .returned (.slice A' (turnOf xs).length c') ∧ OwnI w' w.heap.size w'.heap.size (.slice A' (turnOf xs).length c') (turnOf xs) ∧ (turnOf xs).length ≤ 1048576 ∧ Below w.heap.size w w' := by
  obtain rfl := h.len
  cases hr : rankOk xs.length xs
  · rw [turnOf_no hr]
    go_enter Try.func12, Try.ntmps12
    go_wp2_with fail
    (with_reducible refine (specRankingOk _ _ _ _ _ _ h hn hc).mono ?_)
    rintro e w1 ⟨rfl, hb⟩
    rw [hr]
    go_wp2
    go_ret
    exact ⟨none, 0, rfl, OwnI.nil _ _ _, by simp, hb⟩
  · rw [turnOf_yes hr, invTo_len]
    obtain ⟨f1, f2, _, f4⟩ := rankOk_facts hr
    have F := Lib.hid f4
    clear f4
    go_enter Try.func12, Try.ntmps12
    go_wp2_with fail
    (with_reducible refine (specRankingOk _ _ _ _ _ _ h hn hc).mono ?_)
    rintro e w1 ⟨rfl, hb⟩
    rw [hr]
    have hb0 : Below w.heap.size w w1 := hb
    have h1 := h.below hb0
    have s0 := hb0.size
    go_wp2_with ((with_reducible refine wpList_make_ints _ rfl _ _ rfl xs.length rfl rfl (by omega) ?_); intro w2 ho hb1 hs1)
    have hb2 := hb0.trans (hb1.mono s0)
    have h2 := h1.below hb1
    have z2 := hb2.size
    clear hb0 hb1 hb
    rw [show List.replicate xs.length 0 = invTo xs 0 from rfl] at ho
    go_loopw [4, 5, 16] (fun _ _ i wr => ∃ k : Nat, k ≤ xs.length ∧ i = .int .i64 k ∧ OwnI wr w1.heap.size (w1.heap.size + 1) (.slice (some ⟨w1.heap.size, 0, none⟩) xs.length xs.length) (invTo xs k) ∧ Below w.heap.size w wr ∧ IntsAt wr A xs.length xs) (fun _ _ i _ => xs.length - (intOf i).toNat)
    case atStart => exact ⟨0, Nat.zero_le _, rfl, ho, hb2, h2⟩
    case round =>
      obtain ⟨k, hk, rfl, hown, hb, hr⟩ := hrel
      have zr := hb.size
      by_cases hlt : k < xs.length
      · obtain ⟨b, o, rfl, _, hcc⟩ := hr.at_ hlt
        have hck := hcc k hlt
        clear hcc
        obtain ⟨x0, x1⟩ := F.out k hlt
        obtain ⟨j, hj⟩ : ∃ j : Nat, ix xs k = (j : Int) := ⟨(ix xs k).toNat, by omega⟩
        have hjl : j < xs.length := by omega
        have cj := hown.cellAt j hjl
        have fj := hown.frozenAt j
        rw [hj] at hck
        have hst := hown.stored j (k : Int)
        have e : (invTo xs k).set j (k : Int) = invTo xs (k + 1) := by show _ = (invTo xs k).set (ix xs k).toNat (k : Int); rw [hj]; rfl
        rw [e] at hst
        obtain ⟨ho2, hon⟩ := hst
        have hb2 := Lib.hid (hb.trans (hon.toBelow (B := w.heap.size) s0 zr))
        have HO := Lib.hid ho2
        clear hown hon ho2 hj x0 x1 e
        go_wp2
        go_roundw
        case rel => exact ⟨k + 1, by omega, by go_num, HO.out, hb2.out, h.below hb2.out⟩
        case measure => simp [intOf]; omega
      · obtain rfl : k = xs.length := by omega
        go_wp2
        go_ret
        exact ⟨_, _, rfl, hown.mono (by omega) (by have := hown.num; omega), hn, hb⟩
end Go.Proofs.Ytgehbpeeljifnaa
