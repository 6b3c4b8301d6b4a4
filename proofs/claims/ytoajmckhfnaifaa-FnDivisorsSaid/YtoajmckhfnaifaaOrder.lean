/- The order in which seats are given by a divisor, and the seats. -/
import Derived.Test.YtoajmckhfnaifaaFair
namespace Go.Proofs.Ytoajmckhfnaifaa
set_option linter.unusedVariables false
open Go.RowKit

theorem ix_set {xs : List Int} {j i : Nat} {v : Int} (hj : j < xs.length) : ix (xs.set j v) i = if i = j then v else ix xs i := by
  by_cases hi : i < xs.length
  · rw [ix_lt (by simpa using hi), List.getElem_set, ix_lt hi]
    by_cases e : j = i
    · subst e; simp
    · rw [if_neg e, if_neg (fun h => e h.symm)]
  · rw [ix_ge (by simp; omega), ix_ge (by omega), if_neg (by omega)]
def slLen : Value → Nat | .slice _ n _ => n | _ => 0
/-- the party with the greatest claim among the first k, of equal ones the first -/
def bestTo (m : Int) (xs ys : List Int) : Nat → Nat
  | 0 => 0
  | k + 1 => if 0 < claimC m (ix xs k) (ix ys k) (ix xs (bestTo m xs ys k)) (ix ys (bestTo m xs ys k)) then k else bestTo m xs ys k
theorem bestTo_lt {m : Int} {xs ys : List Int} (h : 0 < xs.length) : ∀ k, k ≤ xs.length → bestTo m xs ys k < xs.length := by
  intro k hk
  induction k with
  | zero => exact h
  | succ k ih =>
    simp only [bestTo]
    split
    · omega
    · exact ih (by omega)
/-- the seats behind t steps, and the party of each step -/
def seatsA (m : Int) (xs : List Int) : Nat → List Int
  | 0 => List.replicate xs.length 0
  | t + 1 => (seatsA m xs t).set (bestTo m xs (seatsA m xs t) xs.length) (ix (seatsA m xs t) (bestTo m xs (seatsA m xs t) xs.length) + 1)
def bestA (m : Int) (xs : List Int) (t : Nat) : Nat := bestTo m xs (seatsA m xs t) xs.length
def orderA (m : Int) (xs : List Int) : Nat → List Int
  | 0 => []
  | t + 1 => orderA m xs t ++ [(bestA m xs t : Int)]
theorem seatsA_len (m : Int) (xs : List Int) (t : Nat) : (seatsA m xs t).length = xs.length := by
  induction t with
  | zero => simp [seatsA]
  | succ t ih => simp [seatsA, ih]
theorem orderA_len (m : Int) (xs : List Int) (t : Nat) : (orderA m xs t).length = t := by
  induction t with
  | zero => rfl
  | succ t ih => simp [orderA, ih]
theorem seatsA_bd {m : Int} {xs : List Int} (h : 0 < xs.length) (t : Nat) : ∀ i, i < xs.length → 0 ≤ ix (seatsA m xs t) i ∧ ix (seatsA m xs t) i ≤ t := by
  induction t with
  | zero => intro i hi; rw [seatsA, ix_lt (by simpa using hi)]; simp
  | succ t ih =>
    intro i hi
    have hb := bestTo_lt (m := m) (ys := seatsA m xs t) h xs.length (Nat.le_refl _)
    rw [seatsA, ix_set (by rw [seatsA_len]; exact hb)]
    have h1 := ih i hi
    have h2 := ih _ hb
    split <;> omega
theorem orderA_bd {m : Int} {xs : List Int} (h : 0 < xs.length) (t : Nat) : ∀ i, i < t → 0 ≤ ix (orderA m xs t) i ∧ ix (orderA m xs t) i < xs.length := by
  induction t with
  | zero => intro i hi; omega
  | succ t ih =>
    intro i hi
    have hl := orderA_len m xs t
    have hb := bestTo_lt (m := m) (ys := seatsA m xs t) h xs.length (Nat.le_refl _)
    rw [orderA, ix_lt (by simp [hl]; omega)]
    by_cases e : i < t
    · rw [List.getElem_append_left (by omega), ← ix_lt]
      exact ih i e
    · rw [List.getElem_append_right (by omega)]
      simp [bestA]
      omega
def seatsAskedB (m : Int) (xs : List Int) (k : Int) : Bool := inB m 1 5 && quotaOk xs k
def seatOrder (m : Int) (xs : List Int) (k : Int) : List Int := if seatsAskedB m xs k then orderA m xs k.toNat else []
theorem seatOrder_no {m : Int} {xs : List Int} {k : Int} (h : seatsAskedB m xs k = false) : seatOrder m xs k = [] := by unfold seatOrder; rw [h]; rfl
theorem seatOrder_yes {m : Int} {xs : List Int} {k : Int} (h : seatsAskedB m xs k = true) : seatOrder m xs k = orderA m xs k.toNat := by unfold seatOrder; rw [if_pos h]
theorem asked_facts {m : Int} {xs : List Int} {k : Int} (h : seatsAskedB m xs k = true) : 1 ≤ m ∧ m ≤ 5 ∧ 0 ≤ k ∧ k ≤ 100 ∧ 1 ≤ xs.length ∧ xs.length ≤ 6 ∧ (∀ x ∈ xs, 0 ≤ x ∧ x ≤ 1000000) := by
  unfold seatsAskedB at h
  rw [Bool.and_eq_true, inB_iff] at h
  obtain ⟨hc, k0, k1⟩ := quotaOk_facts h.2
  obtain ⟨c1, c2, c3, c4, c5⟩ := countsOk_facts hc
  exact ⟨h.1.1, h.1.2, k0, k1, c1, c2, c3⟩
set_option maxRecDepth 100000 in
set_option maxHeartbeats 4000000 in
theorem implSeatOrder (m : Int) (A : Option Addr) (n c : Nat) (xs : List Int) (k : Int) (w : World) (h : IntsAt w A n xs) (hn : n ≤ 1048576) :
    Calls Try.prog 7 #[.int .i64 m, .slice A n c, .int .i64 k] w fun e w' => ∃ A' c', e = .returned (.slice A' (seatOrder m xs k).length c') ∧ OwnI w' w.heap.size w'.heap.size (.slice A' (seatOrder m xs k).length c') (seatOrder m xs k) ∧ (seatOrder m xs k).length ≤ 1048576 ∧ Below w.heap.size w w' := by
  obtain rfl := h.len
  cases hq : seatsAskedB m xs k
  · rw [seatOrder_no hq]
    have hq2 := hq
    unfold seatsAskedB at hq2
    cases hm : inB m 1 5
    · go_enter Try.func7, Try.ntmps7
      go_wp2_with (go_at_call 21; refine (within_any _ _ _ _).mono ?_; rintro e w' ⟨rfl, rfl⟩)
      go_ret
      exact ⟨none, 0, rfl, OwnI.nil _ _ _, by simp, Below.refl _ _⟩
    · rw [hm, Bool.true_and] at hq2
      clear hq
      go_enter Try.func7, Try.ntmps7
      go_wp2_with (go_at_call 21; refine (within_any _ _ _ _).mono ?_; rintro e w' ⟨rfl, rfl⟩)
      (with_reducible refine (quotaAsked_any _ _ _ _ _ _ h hn).mono ?_)
      rintro e w1 ⟨rfl, hb⟩
      rw [hq2]
      go_wp2
      go_ret
      exact ⟨none, 0, rfl, OwnI.nil _ _ _, by simp, hb⟩
  rw [seatOrder_yes hq]
  obtain ⟨m1, m5, k0, k1, n1, n6, hx⟩ := asked_facts hq
  obtain ⟨K, rfl⟩ : ∃ K : Nat, k = (K : Int) := ⟨k.toNat, by omega⟩
  rw [Int.toNat_natCast, orderA_len]
  have HX := Lib.hid hx
  have HQ := Lib.hid hq
  clear hx hq
  have KK : K ≤ 100 := by omega
  have hm : inB m 1 5 = true := inB_iff.2 ⟨m1, m5⟩
  have hq2 : quotaOk xs K = true := by have := HQ.out; unfold seatsAskedB at this; rw [hm] at this; simpa using this
  go_enter Try.func7, Try.ntmps7
  go_wp2_with (go_at_call 21; refine (within_any _ _ _ _).mono ?_; rintro e w' ⟨rfl, rfl⟩)
  (with_reducible refine (quotaAsked_any _ _ _ _ _ _ h hn).mono ?_)
  rintro e w1 ⟨rfl, hb⟩
  rw [hq2]
  clear hq2 hm
  have h1 := h.below hb
  have s1 := hb.size
  go_wp2_with ((with_reducible refine wpList_make_ints _ rfl _ _ rfl xs.length rfl rfl (by omega) ?_); intro w2 ho hb1 hs1)
  have hb2 := hb.trans (hb1.mono s1)
  have z2 := hb2.size
  clear hb hb1 h1
  rw [show List.replicate xs.length 0 = seatsA m xs 0 from rfl] at ho
  go_loopw [8, 9, 10, 24, 28] (fun v _ _ i _ wr => ∃ (t : Nat) (A' : Option Addr) (c' l2 h2 : Nat), t ≤ K ∧ i = .int .i64 t ∧ v = .slice A' t c' ∧ OwnI wr l2 h2 (.slice A' t c') (orderA m xs t) ∧ (h2 ≤ w1.heap.size ∨ w1.heap.size + 1 ≤ l2) ∧ w.heap.size ≤ l2 ∧ (h2 ≤ wr.heap.size ∧ l2 ≤ wr.heap.size) ∧ OwnI wr w1.heap.size (w1.heap.size + 1) (.slice (some ⟨w1.heap.size, 0, none⟩) xs.length xs.length) (seatsA m xs t) ∧ Below w.heap.size w wr) (fun _ _ _ i _ _ => K - (intOf i).toNat)
  case atStart => exact ⟨0, none, 0, w.heap.size, w.heap.size, Nat.zero_le _, rfl, rfl, OwnI.nil _ _ _, by omega, Nat.le_refl _, ⟨z2, z2⟩, ho, hb2⟩
  case round =>
    obtain ⟨t, A1, cc, l2, h2, ht, rfl, rfl, hown, hsep, hl2, ⟨hh2, hhl⟩, hseat, hbr⟩ := hrel
    have zr := hbr.size
    obtain ⟨wo, rfl⟩ : ∃ wo, wo = wr := ⟨_, rfl⟩
    by_cases htl : t < K
    · have hyl := seatsA_len m xs t
      have HYB := Lib.hid (seatsA_bd (m := m) (xs := xs) (by omega) t)
      have HBL := Lib.hid (bestTo_lt (m := m) (xs := xs) (ys := seatsA m xs t) (by omega))
      have HNX : Hid (seatsA m xs (t + 1) = (seatsA m xs t).set (bestTo m xs (seatsA m xs t) xs.length) (ix (seatsA m xs t) (bestTo m xs (seatsA m xs t) xs.length) + 1)) := rfl
      have HNO : Hid (orderA m xs (t + 1) = orderA m xs t ++ [(bestTo m xs (seatsA m xs t) xs.length : Int)]) := rfl
      have HYL := Lib.hid hyl
      clear hyl
      generalize seatsA m xs t = ys at *
      go_wp2
      go_loopw [9, 10, 28] (fun b_ _ i_ wr => ∃ j : Nat, j ≤ xs.length ∧ i_ = .int .i64 j ∧ b_ = .int .i64 (bestTo m xs ys j : Nat) ∧ Below wo.heap.size wo wr) (fun b_ _ i_ _ => xs.length - (intOf i_).toNat)
      case atStart => exact ⟨0, Nat.zero_le _, rfl, rfl, Below.refl _ _⟩
      case round =>
        obtain ⟨j, hj, rfl, rfl, hbi⟩ := hrel
        have zi := hbi.size
        have hbj := HBL.out j hj
        by_cases hjl : j < xs.length
        · have hst := hseat.belowW hbi
          have HST : Hid (bestTo m xs ys (j + 1) = if 0 < claimC m (ix xs j) (ix ys j) (ix xs (bestTo m xs ys j)) (ix ys (bestTo m xs ys j)) then j else bestTo m xs ys j) := rfl
          generalize bestTo m xs ys j = b at *
          obtain ⟨bx, ox, ex, _, hcx⟩ := ((h.below hbr).below hbi).at_ hjl
          cases ex
          have xj := hcx j hjl
          have xb := hcx b hbj
          have yj := hst.cellAt j hjl
          have yb := hst.cellAt b hbj
          clear hcx hst
          have bxj := HX.out _ (ix_mem hjl)
          have bxb := HX.out _ (ix_mem hbj)
          have byj := HYB.out j hjl
          have byb := HYB.out b hbj
          have i1 : (0 : Int) ≤ (j : Int) := by omega
          have i2 : (j : Int) < (xs.length : Int) := by omega
          have i3 : (0 : Int) ≤ (b : Int) := by omega
          have i4 : (b : Int) < (xs.length : Int) := by omega
          have q0 : ∀ L : Later wr, L.W.cell? ⟨bx, ox + j, none⟩ = some (.int .i64 (ix xs j)) := fun L => L.cell xj
          have q1 : ∀ L : Later wr, L.W.cell? ⟨w1.heap.size, j, none⟩ = some (.int .i64 (ix ys j)) := fun L => L.cell yj
          have q2 : ∀ L : Later wr, L.W.cell? ⟨bx, ox + b, none⟩ = some (.int .i64 (ix xs b)) := fun L => L.cell xb
          have q3 : ∀ L : Later wr, L.W.cell? ⟨w1.heap.size, b, none⟩ = some (.int .i64 (ix ys b)) := fun L => L.cell yb
          clear xj yj xb yb
          obtain ⟨r, hr⟩ : ∃ r, claimC m (ix xs j) (ix ys j) (ix xs b) (ix ys b) = r := ⟨_, rfl⟩
          have K1 : Hid (∀ L : Later wr, Calls Try.prog 23 #[.int .i64 m, .int .i64 (ix xs j), .int .i64 (ix ys j), .int .i64 (ix xs b), .int .i64 (ix ys b)] L.W fun e W' => e = .returned (.int .i64 r) ∧ ∃ L' : Later wr, W' = L'.W) := fun L => L.call (by
            exact (compareClaims_any m _ _ _ _ L.W m1 m5 bxj.1 bxj.2 byj.1 (by omega) bxb.1 bxb.2 byb.1 (by omega)).mono fun _ _ ⟨he, hw⟩ => ⟨by rw [he, hr], hw⟩)
          by_cases hr0 : 0 < r
          · have HN := Lib.hid (HST.out.trans (if_pos (by rw [hr]; exact hr0)))
            clear hr
            go_wp2
            refine wp_region_later (by kernel_rfl) (by kernel_rfl) ?_
            repeat (go_big_quiet_step ((with_reducible exact K1.out _)))
            (refine wpQuiet_nil ?_; rintro _ ⟨⟨wl, hbl⟩, rfl⟩)
            go_wp2
            go_roundw
            case rel => exact ⟨j + 1, by omega, by go_num, by rw [HN.out], hbi.trans (hbl.mono zi)⟩
            case measure => simp [intOf]; omega
          · have HN := Lib.hid (HST.out.trans (if_neg (by rw [hr]; exact hr0)))
            have hr1 : r ≤ 0 := by omega
            clear hr hr0
            go_wp2
            refine wp_region_later (by kernel_rfl) (by kernel_rfl) ?_
            repeat (go_big_quiet_step ((with_reducible exact K1.out _)))
            (refine wpQuiet_nil ?_; rintro _ ⟨⟨wl, hbl⟩, rfl⟩)
            go_wp2
            go_roundw
            case rel => exact ⟨j + 1, by omega, by go_num, by rw [HN.out], hbi.trans (hbl.mono zi)⟩
            case measure => simp [intOf]; omega
        · obtain rfl : j = xs.length := by omega
          have hst := hseat.belowW hbi
          have hou := hown.belowW hbi
          generalize bestTo m xs ys xs.length = b at *
          have yb := hst.cellAt b hbj
          have sg := hst.num.2.1
          have fb := hst.frozenAt b
          have byb := HYB.out b hbj
          obtain ⟨o1, n1'⟩ := hst.stored b (ix ys b + 1)
          have o1 : OwnI _ _ _ _ _ := o1
          have ou := hou.only n1' (by omega)
          have b1 : Below w.heap.size w _ := (hbr.trans (hbi.mono zr)).trans (n1'.toBelow (B := w.heap.size) (by omega) (by omega))
          have zz := n1'.size
          have O1 := Lib.hid o1
          have B1 := Lib.hid b1
          clear o1 b1 hst hou n1' hown hseat hbr hbi
          go_wp2_with (at_builtin; refine wpList_append_int2 _ rfl _ _ rfl l2 h2 t _ _ _ rfl (ou.alloc _) b _ 1 rfl (new_cell _ _ _ (by simp [World.setCell])) (by omega) (by simp; omega) (by simp; omega) ?_)
          intro A2 c2 w2 l3 h3 o2 on hs2 hat
          have hs3 := O1.out.alloc (.cells #[.int .i64 b] 3)
          have hs4 := hs3.only on (by omega)
          have hb4 := (B1.out.alloc (by simp; omega) (.cells #[.int .i64 b] 3)).trans (on.toBelow (B := w.heap.size) (by omega) (by simp; omega))
          rw [← HNO.out] at o2
          rw [← HNX.out] at hs4
          have hat2 : (h3 ≤ w1.heap.size ∨ w1.heap.size + 1 ≤ l3) ∧ w.heap.size ≤ l3 ∧ h3 ≤ w2.heap.size ∧ l3 ≤ w2.heap.size := by (try simp at hat); (try simp at hs2); omega
          clear on hs3 ou zz yb fb
          go_wp2
          go_roundw
          case rel => exact ⟨t + 1, _, _, l3, h3, by omega, by go_num, rfl, o2, hat2.1, hat2.2.1, hat2.2.2, hs4, hb4⟩
          case measure => simp [intOf]; omega
    · obtain rfl : t = K := by omega
      go_wp2
      go_ret
      exact ⟨_, _, rfl, hown.mono hl2 hh2, by omega, hbr⟩
end Go.Proofs.Ytoajmckhfnaifaa
