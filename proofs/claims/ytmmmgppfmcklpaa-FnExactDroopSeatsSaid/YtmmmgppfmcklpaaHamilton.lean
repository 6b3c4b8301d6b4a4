/- Seats by the greatest remainders: both sides. -/
import Derived.Test.YtmmmgppfmcklpaaFilledH
import Derived.Test.YtmmmgppfmcklpaaGiveS
namespace Go.Proofs.Ytmmmgppfmcklpaa
set_option linter.unusedVariables false
open Go.RowKit

def hamilton (xs : List Int) (k : Int) : List Int :=
  if quotaOk xs k then giveTo (quotasOf lowF xs k) (sortS (quotasOf remF xs k) xs.length) (k - lsum (quotasOf lowF xs k)).toNat else []
theorem hamilton_no {xs : List Int} {k : Int} (h : quotaOk xs k = false) : hamilton xs k = [] := by unfold hamilton; rw [h]; rfl
theorem hamilton_yes {xs : List Int} {k : Int} (h : quotaOk xs k = true) : hamilton xs k = giveTo (quotasOf lowF xs k) (sortS (quotasOf remF xs k) xs.length) (k - lsum (quotasOf lowF xs k)).toNat := by unfold hamilton; rw [if_pos h]
theorem ix_mapQ {f : Int → Int → Int} {s k : Int} {xs : List Int} {i : Nat} (h : i < xs.length) : ix (mapQ f s k xs) i = f (ix xs i * k) s := by
  rw [ix_lt (by rw [mapQ_len]; exact h), ix_lt h]; simp [mapQ]
theorem mapQ_sums (s k : Int) (xs : List Int) : s * lsum (mapQ lowF s k xs) + lsum (mapQ remF s k xs) = lsum xs * k := by
  induction xs with
  | nil => simp [mapQ, lsum]
  | cons x xs ih =>
    have h : s * (x * k / s) + x * k % s = x * k := Int.mul_ediv_add_emod _ _
    simp only [mapQ, List.map_cons, lsum, lowF, remF] at ih ⊢
    rw [Int.mul_add, Int.add_mul]
    omega
theorem mapQ_rem_bd {s k : Int} (hs : 1 ≤ s) (xs : List Int) : 0 ≤ lsum (mapQ remF s k xs) ∧ lsum (mapQ remF s k xs) ≤ xs.length * (s - 1) := by
  induction xs with
  | nil => simp [mapQ, lsum]
  | cons x xs ih =>
    have h := mod_bd (t := x * k) hs
    simp only [mapQ, List.map_cons, lsum, remF, List.length_cons, Int.natCast_add, Int.natCast_one] at ih h ⊢
    rw [Int.add_mul]
    omega
structure HamF (xs ss rs : List Int) (k : Int) (m : Nat) : Prop where
  n1 : 1 ≤ xs.length
  n6 : xs.length ≤ 6
  k0 : 0 ≤ k
  k1 : k ≤ 100
  sl : ss.length = xs.length
  rl : rs.length = xs.length
  sb : ∀ i, i < xs.length → 0 ≤ ix ss i ∧ ix ss i ≤ 1000000
  rb : ∀ i, i < xs.length → 0 ≤ ix rs i ∧ ix rs i ≤ 1000000000
  hm : k - lsum ss = m
  ml : m ≤ xs.length
theorem ham_facts {xs : List Int} {k : Int} (h : quotaOk xs k = true) : HamF xs (quotasOf lowF xs k) (quotasOf remF xs k) k (k - lsum (quotasOf lowF xs k)).toNat := by
  rw [quotasOf_yes h, quotasOf_yes h]
  obtain ⟨hc, k0, k1⟩ := quotaOk_facts h
  obtain ⟨c1, c2, c3, c4, c5⟩ := countsOk_facts hc
  have hs : 1 ≤ lsum xs := by omega
  have hsum := mapQ_sums (lsum xs) k xs
  have hrem := mapQ_rem_bd (k := k) hs xs
  have hk : lsum xs * (k - lsum (mapQ lowF (lsum xs) k xs)) = lsum (mapQ remF (lsum xs) k xs) := by rw [Int.mul_sub]; omega
  have hD : 0 ≤ k - lsum (mapQ lowF (lsum xs) k xs) ∧ k - lsum (mapQ lowF (lsum xs) k xs) ≤ xs.length := by
    generalize k - lsum (mapQ lowF (lsum xs) k xs) = D at *
    generalize lsum (mapQ remF (lsum xs) k xs) = R at *
    generalize lsum xs = s at *
    constructor
    · rcases Int.lt_or_le D 0 with hD | hD
      · have := Int.mul_le_mul_of_nonneg_left (show D ≤ -1 by omega) (show 0 ≤ s by omega)
        omega
      · exact hD
    · rcases Int.lt_or_le (xs.length : Int) D with hD | hD
      · have h1 := Int.mul_le_mul_of_nonneg_left (show (xs.length : Int) + 1 ≤ D by omega) (show 0 ≤ s by omega)
        rw [Int.mul_add, Int.mul_comm] at h1
        rw [Int.mul_sub] at hrem
        omega
      · exact hD
  refine ⟨by omega, by omega, k0, k1, mapQ_len _ _ _ _, mapQ_len _ _ _ _, fun i hi => ?_, fun i hi => ?_, by omega, by omega⟩
  · rw [ix_mapQ hi]
    have b1 := claim_bd (c3 _ (ix_mem hi)) k0 k1
    have d1 := div_bd b1.1 hs
    unfold lowF
    refine ⟨d1.1, ?_⟩
    have hle : ix xs i ≤ lsum xs := by
      have : ∀ (ys : List Int), (∀ y ∈ ys, 0 ≤ y) → ∀ y ∈ ys, y ≤ lsum ys := by
        intro ys hy
        induction ys with
        | nil => intro y h; cases h
        | cons z zs ih =>
          have hz : 0 ≤ lsum zs := by
            clear ih
            induction zs with
            | nil => simp [lsum]
            | cons u us ih2 =>
              have := ih2 (fun y hyy => hy y (by simp at hyy ⊢; rcases hyy with h | h; exact .inl h; exact .inr (.inr h)))
              have := hy u (by simp)
              simp only [lsum]; omega
          intro y hyy
          have h0 := hy z (by simp)
          simp only [lsum]
          rcases List.mem_cons.1 hyy with rfl | h1
          · omega
          · have := ih (fun y h => hy y (by simp [h])) y h1
            omega
      exact this xs (fun y hy => (c3 y hy).1) _ (ix_mem hi)
    have : ix xs i * k ≤ lsum xs * 1000000 := Int.mul_le_mul hle (by omega) k0 (by omega)
    have := Int.ediv_le_ediv (show 0 < lsum xs by omega) this
    rw [Int.mul_ediv_cancel_left _ (by omega)] at this
    exact this
  · rw [ix_mapQ hi]
    unfold remF
    have := mod_bd (t := ix xs i * k) hs
    omega
set_option maxHeartbeats 800000 in
theorem implHamilton (A : Option Addr) (n c : Nat) (xs : List Int) (k : Int) (w : World) (h : IntsAt w A n xs) (hn : n ≤ 1048576) :
    Calls Try.prog 8 #[.slice A n c, .int .i64 k] w fun e w' => ∃ A' c', e = .returned (.slice A' (hamilton xs k).length c') ∧ OwnI w' w.heap.size w'.heap.size (.slice A' (hamilton xs k).length c') (hamilton xs k) ∧ (hamilton xs k).length ≤ 1048576 ∧ Below w.heap.size w w' := by
  obtain rfl := h.len
  cases hq : quotaOk xs k
  · rw [hamilton_no hq]
    go_enter Try.func8, Try.ntmps8
    go_wp2_with fail
    (with_reducible refine (quotaAsked_any _ _ _ _ _ _ h hn).mono ?_)
    rintro e w1 ⟨rfl, hb⟩
    rw [hq]
    go_wp2
    go_ret
    exact ⟨none, 0, rfl, OwnI.nil _ _ _, by simp, hb⟩
  rw [hamilton_yes hq, giveTo_len, (ham_facts hq).sl]
  have F := Lib.hid (ham_facts hq)
  have HL := Lib.hid (fun W hW => implLowerQuotas A xs.length c xs k W hW hn)
  have HR := Lib.hid (fun W hW => implRemaindersOf A xs.length c xs k W hW hn)
  have HQ := Lib.hid hq
  generalize (k - lsum (quotasOf lowF xs k)).toNat = m at *
  generalize quotasOf lowF xs k = ss at *
  generalize quotasOf remF xs k = rs at *
  have n1 := F.out.n1
  have n6 := F.out.n6
  have sl := Nat.le_of_eq F.out.sl
  have sl2 := Nat.le_of_eq F.out.sl.symm
  clear hq
  go_enter Try.func8, Try.ntmps8
  go_wp2_with fail
  (with_reducible refine (quotaAsked_any _ _ _ _ _ _ h hn).mono ?_)
  rintro e w1 ⟨rfl, hb1⟩
  rw [HQ.out]
  have s1 := hb1.size
  go_wp2_with fail
  (with_reducible refine (HL.out _ (h.below hb1)).mono ?_)
  rintro e w2 ⟨A2, c2, rfl, o2, _, hb⟩
  have hb2 := hb1.trans (hb.mono s1)
  have s2 := hb2.size
  clear hb
  go_wp2_with fail
  (with_reducible refine (HR.out _ (h.below hb2)).mono ?_)
  rintro e w3 ⟨A3, c3, rfl, o3, _, hb⟩
  have hb3 := hb2.trans (hb.mono s2)
  have s3 := hb.size
  replace o2 := o2.belowW hb
  clear hb
  rw [F.out.sl] at o2 ⊢
  rw [F.out.rl] at o3 ⊢
  obtain ⟨g, rfl, hg1, hg2⟩ := o2.head (by omega)
  have hne : ∀ a, A3 = some a → 0 < xs.length → a.block ≠ g := fun a e hl => by
    obtain ⟨g3, e3, h3, _⟩ := o3.head hl
    rw [e] at e3
    cases e3
    show g3 ≠ g
    omega
  have HNE := Lib.hid hne
  clear hne
  go_wp2_with fail
  (with_reducible refine (filledH_any g c2 xs.length _ _ ss A3 c3 rs k m _ o2 o3.at_ HNE.out n1 n6 F.out.rb F.out.sb F.out.hm F.out.ml ⟨F.out.k0, by have := F.out.k1; omega⟩).mono ?_)
  rintro e w4 ⟨rfl, o4, hon⟩
  have hb4 := hb3.trans (hon.toBelow (by omega) (by omega))
  have s4 := hon.size
  clear o2 o3 hon hb1 hb2 hb3
  go_wp2
  go_ret
  exact ⟨_, _, rfl, o4.mono s1 (by omega), hn, hb4⟩
set_option maxHeartbeats 800000 in
theorem specHamilton (A : Option Addr) (n c : Nat) (xs : List Int) (k : Int) (w : World) (h : IntsAt w A n xs) (hn : n ≤ 1048576) :
    Calls Try.prog 6 #[.slice A n c, .int .i64 k] w fun e w' => ∃ A' c', e = .returned (.slice A' (hamilton xs k).length c') ∧ OwnI w' w.heap.size w'.heap.size (.slice A' (hamilton xs k).length c') (hamilton xs k) ∧ (hamilton xs k).length ≤ 1048576 ∧ Below w.heap.size w w' := by
  obtain rfl := h.len
  cases hq : quotaOk xs k
  · rw [hamilton_no hq]
    go_enter Try.func6, Try.ntmps6
    go_wp2_with fail
    (with_reducible refine (l13Ok_any _ _ _ _ _ _ h hn).mono ?_)
    rintro e w1 ⟨rfl, rfl⟩
    rw [hq]
    go_wp2
    go_ret
    exact ⟨none, 0, rfl, OwnI.nil _ _ _, by simp, Below.refl _ _⟩
  rw [hamilton_yes hq, giveTo_len, (ham_facts hq).sl]
  have F := Lib.hid (ham_facts hq)
  have HL := Lib.hid (fun W hW => specLowerQuotas A xs.length c xs k W hW hn)
  have HR := Lib.hid (fun W hW => specRemaindersOf A xs.length c xs k W hW hn)
  have HQ := Lib.hid hq
  generalize (k - lsum (quotasOf lowF xs k)).toNat = m at *
  generalize quotasOf lowF xs k = ss at *
  generalize quotasOf remF xs k = rs at *
  have n1 := F.out.n1
  have n6 := F.out.n6
  have sl := Nat.le_of_eq F.out.sl
  have sl2 := Nat.le_of_eq F.out.sl.symm
  clear hq
  go_enter Try.func6, Try.ntmps6
  go_wp2_with fail
  (with_reducible refine (l13Ok_any _ _ _ _ _ _ h hn).mono ?_)
  rintro e w1 ⟨rfl, rfl⟩
  rw [HQ.out]
  go_wp2_with fail
  (with_reducible refine (HL.out _ h).mono ?_)
  rintro e w2 ⟨A2, c2, rfl, o2, _, hb2⟩
  have s2 := hb2.size
  go_wp2_with fail
  (with_reducible refine (HR.out _ (h.below hb2)).mono ?_)
  rintro e w3 ⟨A3, c3, rfl, o3, _, hb⟩
  have hb3 := hb2.trans (hb.mono s2)
  have s3 := hb3.size
  replace o2 := o2.belowW hb
  clear hb hb2
  rw [F.out.sl] at o2 ⊢
  rw [F.out.rl] at o3 ⊢
  go_wp2_with fail
  (with_reducible refine (l13Give_any _ _ xs.length ss _ _ rs k m _ o2.at_ o3.at_ n1 n6 F.out.rb F.out.sb F.out.hm F.out.ml ⟨F.out.k0, by have := F.out.k1; omega⟩).mono ?_)
  rintro e w4 ⟨A4, c4, rfl, o4, hb⟩
  have hb4 := hb3.trans (hb.mono s3)
  clear o2 o3 hb hb3
  go_wp2
  go_ret
  exact ⟨_, _, rfl, o4.mono s3 (Nat.le_refl _), hn, hb4⟩
end Go.Proofs.Ytmmmgppfmcklpaa
