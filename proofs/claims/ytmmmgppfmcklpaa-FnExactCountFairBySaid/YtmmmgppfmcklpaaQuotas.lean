/- Quotas of seats. -/
import Derived.Test.YtmmmgppfmcklpaaCounts
namespace Go.Proofs.Ytmmmgppfmcklpaa
set_option linter.unusedVariables false
open Go.RowKit

def quotaOk (xs : List Int) (k : Int) : Bool := countsOk xs && inB k 0 100
theorem quotaOk_facts {xs : List Int} {k : Int} (h : quotaOk xs k = true) : countsOk xs = true ∧ 0 ≤ k ∧ k ≤ 100 := by
  unfold quotaOk at h
  rw [Bool.and_eq_true, inB_iff] at h
  exact h
def lowF (t a : Int) : Int := t / a
def upF (t a : Int) : Int := (t + a - 1) / a
def remF (t a : Int) : Int := t % a
/-- of each count a number made of its claim and of all counts -/
def mapQ (f : Int → Int → Int) (s k : Int) (xs : List Int) : List Int := xs.map fun x => f (x * k) s
theorem mapQ_len (f : Int → Int → Int) (s k : Int) (xs : List Int) : (mapQ f s k xs).length = xs.length := by simp [mapQ]
theorem mapQ_take (f : Int → Int → Int) (s k : Int) {xs : List Int} {j : Nat} (h : j < xs.length) : mapQ f s k (xs.take (j + 1)) = mapQ f s k (xs.take j) ++ [f (ix xs j * k) s] := by
  rw [take_ix h]; simp [mapQ]
def quotasOf (f : Int → Int → Int) (xs : List Int) (k : Int) : List Int := if quotaOk xs k then mapQ f (lsum xs) k xs else []
theorem quotasOf_yes {f : Int → Int → Int} {xs : List Int} {k : Int} (h : quotaOk xs k = true) : quotasOf f xs k = mapQ f (lsum xs) k xs := by unfold quotasOf; rw [if_pos h]
theorem quotasOf_no {f : Int → Int → Int} {xs : List Int} {k : Int} (h : quotaOk xs k = false) : quotasOf f xs k = [] := by unfold quotasOf; rw [h]; rfl
theorem claim_bd {x k : Int} (h1 : 0 ≤ x ∧ x ≤ 1000000) (h2 : 0 ≤ k) (h3 : k ≤ 100) : 0 ≤ x * k ∧ x * k ≤ 100000000 := by
  have a1 := Int.mul_nonneg h1.1 h2
  have a2 := Int.mul_le_mul h1.2 h3 h2 (by omega)
  exact ⟨a1, by omega⟩
theorem counts_bd {xs : List Int} (h : countsOk xs = true) : ∀ x ∈ xs, 0 ≤ x ∧ x ≤ 1000000000 := fun x hx => by have := (countsOk_facts h).2.2.1 x hx; omega
theorem div_bd {t a : Int} (h0 : 0 ≤ t) (h1 : 1 ≤ a) : 0 ≤ t / a ∧ t / a ≤ t := ⟨Int.ediv_nonneg h0 (by omega), Int.ediv_le_self a h0⟩
theorem mod_bd {t a : Int} (h1 : 1 ≤ a) : 0 ≤ t % a ∧ t % a < a := ⟨Int.emod_nonneg t (by omega), Int.emod_lt_of_pos t (by omega)⟩

theorem quotaAsked_any (A : Option Addr) (n c : Nat) (xs : List Int) (k : Int) (w : World) (h : IntsAt w A n xs) (hn : n ≤ 1048576) :
    Calls Try.prog 20 #[.slice A n c, .int .i64 k] w fun e w' => e = .returned (.bool (quotaOk xs k)) ∧ Below w.heap.size w w' := by
  unfold quotaOk
  cases hc : countsOk xs
  all_goals
    go_enter Try.func20, Try.ntmps20
    go_wp2_with fail
    refine (implCountsOk _ _ _ _ _ h hn).mono ?_
    rintro e w' ⟨rfl, hb⟩
    rw [hc]
    go_wp2_with (go_at_call 34; refine (within_any _ _ _ _).mono ?_; rintro e w' ⟨rfl, rfl⟩)
    go_ret
    exact ⟨rfl, hb⟩
theorem l13Ok_any (A : Option Addr) (n c : Nat) (xs : List Int) (k : Int) (w : World) (h : IntsAt w A n xs) (hn : n ≤ 1048576) :
    Calls Try.prog 16 #[.slice A n c, .int .i64 k] w fun e w' => e = .returned (.bool (quotaOk xs k)) ∧ w = w' := by
  unfold quotaOk
  cases hc : countsOk xs
  all_goals
    go_enter Try.func16, Try.ntmps16
    go_wp2_with fail
    refine (specCountsOk _ _ _ _ _ h hn).mono ?_
    rintro e w' ⟨rfl, rfl⟩
    rw [hc]
    go_wp2_with (go_at_call 32; refine (l01In_any _ _ _ _).mono ?_; rintro e w' ⟨rfl, rfl⟩)
    go_ret
    exact ⟨rfl, rfl⟩
set_option maxHeartbeats 800000 in
theorem quotas_any (g : Nat) (f : Int → Int → Int) (A : Option Addr) (n c : Nat) (xs : List Int) (k : Int) (w : World) (h : IntsAt w A n xs) (hn : n ≤ 1048576)
    (hen : ∀ (args : Array Value) (w : World), (callFunc g args).run Try.prog w = .ok (.enter g args) w)
    (hg : ∀ t a W, 0 ≤ t → t ≤ 100000000 → 1 ≤ a → a ≤ 6000000 → Calls Try.prog g #[.int .i64 t, .int .i64 a] W fun e W' => e = .returned (.int .i64 (f t a)) ∧ W = W') :
    Calls Try.prog 38 #[.slice A n c, .int .i64 k, .func (.func g) #[] #[]] w fun e w' => ∃ A' c', e = .returned (.slice A' (quotasOf f xs k).length c') ∧
      OwnI w' w.heap.size w'.heap.size (.slice A' (quotasOf f xs k).length c') (quotasOf f xs k) ∧ (quotasOf f xs k).length ≤ 1048576 ∧ Below w.heap.size w w' := by
  obtain rfl := h.len
  have HG := Lib.hid hg
  clear hg
  cases hq : quotaOk xs k
  · rw [quotasOf_no hq]
    go_enter Try.func38, Try.ntmps38
    go_wp2_with fail
    refine (quotaAsked_any _ _ _ _ _ _ h hn).mono ?_
    rintro e w' ⟨rfl, hb⟩
    rw [hq]
    go_wp2
    go_ret
    exact ⟨none, 0, rfl, OwnI.nil _ _ _, by simp, hb⟩
  · rw [quotasOf_yes hq, mapQ_len]
    obtain ⟨hc, k0, k1⟩ := quotaOk_facts hq
    obtain ⟨c1, c2, c3, c4, c5⟩ := countsOk_facts hc
    have HB := Lib.hid c3
    have HB2 := Lib.hid (counts_bd hc)
    clear c3 hc
    go_enter Try.func38, Try.ntmps38
    go_wp2_with fail
    refine (quotaAsked_any _ _ _ _ _ _ h hn).mono ?_
    rintro e w1 ⟨rfl, hb1⟩
    rw [hq]
    have s1 := hb1.size
    go_wp2
    go_loopw [7, 9, 16] (fun v _ i wr => ∃ (j : Nat) (A' : Option Addr) (c' : Nat), j ≤ xs.length ∧ i = .int .i64 j ∧ v = .slice A' j c' ∧ OwnI wr w.heap.size wr.heap.size (.slice A' j c') (mapQ f (lsum xs) k (xs.take j)) ∧ Below w.heap.size w wr)
      (fun _ _ i _ => xs.length - (intOf i).toNat)
    case atStart => exact ⟨0, none, 0, Nat.zero_le _, rfl, rfl, OwnI.nil _ _ _, hb1⟩
    case round =>
      obtain ⟨j, A1, cc, hj, rfl, rfl, hown, hb⟩ := hrel
      clear hb1
      by_cases hlt : j < xs.length
      · obtain ⟨b, o, rfl, hbl, hc⟩ := (h.below hb).at_ hlt
        have hcj := hc j hlt
        clear hc
        have b1 := claim_bd (HB.out _ (ix_mem hlt)) k0 k1
        have hsz := hb.size
        go_wp2_with (first
          | (go_at_call 25; refine (sumOf_any _ _ c xs _ (h.below hb) hn HB2.out).mono ?_; rintro e w' ⟨rfl, rfl⟩)
          | (refine (HG.out (ix xs j * k) (lsum xs) _ b1.1 b1.2 c4 c5).mono ?_; rintro e w' ⟨rfl, rfl⟩)
          | (at_builtin; refine wpList_append_int _ rfl _ _ rfl w.heap.size _ j _ _ _ rfl (hown.alloc _) (f (ix xs j * k) (lsum xs)) _ 1 rfl (new_cell _ _ _ rfl) (by omega) (by simp; omega) (by simp; omega) ?_))
        intro A2 c2' w2 ho2 hon
        rw [← mapQ_take f _ _ hlt] at ho2
        have hb2 : Below w.heap.size w w2 := (hb.alloc hsz _).trans (hon.toBelow (Nat.le_refl _) (by simp; omega))
        clear hon hown hcj
        go_wp2
        go_roundw
        case rel => exact ⟨j + 1, _, _, by omega, by go_num, rfl, ho2, hb2⟩
        case measure => simp [intOf]; omega
      · obtain rfl : j = xs.length := by omega
        rw [List.take_length] at hown
        go_wp2
        go_ret
        exact ⟨_, _, rfl, hown, hn, hb⟩
theorem implLowerQuotas (A : Option Addr) (n c : Nat) (xs : List Int) (k : Int) (w : World) (h : IntsAt w A n xs) (hn : n ≤ 1048576) :
    Calls Try.prog 22 #[.slice A n c, .int .i64 k] w fun e w' => ∃ A' c', e = .returned (.slice A' (quotasOf lowF xs k).length c') ∧
      OwnI w' w.heap.size w'.heap.size (.slice A' (quotasOf lowF xs k).length c') (quotasOf lowF xs k) ∧ (quotasOf lowF xs k).length ≤ 1048576 ∧ Below w.heap.size w w' := by
  have hq := quotas_any 39 lowF A n c xs k w h hn (enters Try.func39 (by kernel_rfl) rfl) (fun t a W h0 h1 h2 h3 => by
    have d1 := div_bd h0 h2
    have d2 := mod_bd (t := t) h2
    have d3 := div_bd (t := t + a - 1) (a := a) (by omega) h2
    unfold lowF
    go_enter Try.func39, Try.ntmps39
    go_wp2
    go_ret
    exact ⟨rfl, rfl⟩)
  have HQ := Lib.hid hq
  clear hq
  go_enter Try.func22, Try.ntmps22
  go_wp2_with fail
  refine HQ.out.mono ?_
  rintro e w' ⟨A', c', rfl, ho, hl, hb⟩
  go_wp2
  go_ret
  exact ⟨_, _, rfl, ho, hl, hb⟩
set_option maxHeartbeats 800000 in
theorem specLowerQuotas (A : Option Addr) (n c : Nat) (xs : List Int) (k : Int) (w : World) (h : IntsAt w A n xs) (hn : n ≤ 1048576) :
    Calls Try.prog 18 #[.slice A n c, .int .i64 k] w fun e w' => ∃ A' c', e = .returned (.slice A' (quotasOf lowF xs k).length c') ∧
      OwnI w' w.heap.size w'.heap.size (.slice A' (quotasOf lowF xs k).length c') (quotasOf lowF xs k) ∧ (quotasOf lowF xs k).length ≤ 1048576 ∧ Below w.heap.size w w' := by
  obtain rfl := h.len
  cases hq : quotaOk xs k
  · rw [quotasOf_no hq]
    go_enter Try.func18, Try.ntmps18
    go_wp2_with fail
    refine (l13Ok_any _ _ _ _ _ _ h hn).mono ?_
    rintro e w' ⟨rfl, rfl⟩
    rw [hq]
    go_wp2
    go_ret
    exact ⟨none, 0, rfl, OwnI.nil _ _ _, by simp, Below.refl _ _⟩
  · rw [quotasOf_yes hq, mapQ_len]
    obtain ⟨hc, k0, k1⟩ := quotaOk_facts hq
    obtain ⟨c1, c2, c3, c4, c5⟩ := countsOk_facts hc
    have HB := Lib.hid c3
    have HB2 := Lib.hid (counts_bd hc)
    clear c3 hc
    go_enter Try.func18, Try.ntmps18
    go_wp2_with fail
    refine (l13Ok_any _ _ _ _ _ _ h hn).mono ?_
    rintro e w1 ⟨rfl, rfl⟩
    rw [hq]
    go_wp2
    go_loopw [5, 7, 15] (fun v _ i wr => ∃ (j : Nat) (A' : Option Addr) (c' : Nat), j ≤ xs.length ∧ i = .int .i64 j ∧ v = .slice A' j c' ∧ OwnI wr w.heap.size wr.heap.size (.slice A' j c') (mapQ lowF (lsum xs) k (xs.take j)) ∧ Below w.heap.size w wr)
      (fun _ _ i _ => xs.length - (intOf i).toNat)
    case atStart => exact ⟨0, _, 0, Nat.zero_le _, rfl, rfl, OwnI.empty _ (Nat.le_refl _) (by simp), (Below.refl _ _).alloc (Nat.le_refl _) _⟩
    case round =>
      obtain ⟨j, A1, cc, hj, rfl, rfl, hown, hb⟩ := hrel
      by_cases hlt : j < xs.length
      · obtain ⟨b, o, rfl, hbl, hc⟩ := (h.below hb).at_ hlt
        have hcj := hc j hlt
        clear hc
        have b1 := claim_bd (HB.out _ (ix_mem hlt)) k0 k1
        have d1 := div_bd b1.1 c4
        have d2 := mod_bd (t := ix xs j * k) c4
        have d3 := div_bd (t := ix xs j * k + lsum xs - 1) (a := lsum xs) (by omega) c4
        have hsz := hb.size
        go_wp2_with (first
          | (go_at_call 24; refine (l13Sum_any _ _ c xs _ (h.below hb) hn HB2.out).mono ?_; rintro e w' ⟨rfl, rfl⟩)
          | (at_builtin; refine wpList_append_int _ rfl _ _ rfl w.heap.size _ j _ _ _ rfl (hown.alloc _) (lowF (ix xs j * k) (lsum xs)) _ 1 rfl (new_cell _ _ _ rfl) (by omega) (by simp; omega) (by simp; omega) ?_))
        intro A2 c2' w2 ho2 hon
        rw [← mapQ_take lowF _ _ hlt] at ho2
        have hb2 : Below w.heap.size w w2 := (hb.alloc hsz _).trans (hon.toBelow (Nat.le_refl _) (by simp; omega))
        clear hon hown hcj
        go_wp2
        go_roundw
        case rel => exact ⟨j + 1, _, _, by omega, by go_num, rfl, ho2, hb2⟩
        case measure => simp [intOf]; omega
      · obtain rfl : j = xs.length := by omega
        rw [List.take_length] at hown
        go_wp2
        go_ret
        exact ⟨_, _, rfl, hown, hn, hb⟩
theorem implRemaindersOf (A : Option Addr) (n c : Nat) (xs : List Int) (k : Int) (w : World) (h : IntsAt w A n xs) (hn : n ≤ 1048576) :
    Calls Try.prog 23 #[.slice A n c, .int .i64 k] w fun e w' => ∃ A' c', e = .returned (.slice A' (quotasOf remF xs k).length c') ∧
      OwnI w' w.heap.size w'.heap.size (.slice A' (quotasOf remF xs k).length c') (quotasOf remF xs k) ∧ (quotasOf remF xs k).length ≤ 1048576 ∧ Below w.heap.size w w' := by
  have hq := quotas_any 40 remF A n c xs k w h hn (enters Try.func40 (by kernel_rfl) rfl) (fun t a W h0 h1 h2 h3 => by
    have d1 := div_bd h0 h2
    have d2 := mod_bd (t := t) h2
    have d3 := div_bd (t := t + a - 1) (a := a) (by omega) h2
    unfold remF
    go_enter Try.func40, Try.ntmps40
    go_wp2
    go_ret
    exact ⟨rfl, rfl⟩)
  have HQ := Lib.hid hq
  clear hq
  go_enter Try.func23, Try.ntmps23
  go_wp2_with fail
  refine HQ.out.mono ?_
  rintro e w' ⟨A', c', rfl, ho, hl, hb⟩
  go_wp2
  go_ret
  exact ⟨_, _, rfl, ho, hl, hb⟩
set_option maxHeartbeats 800000 in
theorem specRemaindersOf (A : Option Addr) (n c : Nat) (xs : List Int) (k : Int) (w : World) (h : IntsAt w A n xs) (hn : n ≤ 1048576) :
    Calls Try.prog 19 #[.slice A n c, .int .i64 k] w fun e w' => ∃ A' c', e = .returned (.slice A' (quotasOf remF xs k).length c') ∧
      OwnI w' w.heap.size w'.heap.size (.slice A' (quotasOf remF xs k).length c') (quotasOf remF xs k) ∧ (quotasOf remF xs k).length ≤ 1048576 ∧ Below w.heap.size w w' := by
  obtain rfl := h.len
  cases hq : quotaOk xs k
  · rw [quotasOf_no hq]
    go_enter Try.func19, Try.ntmps19
    go_wp2_with fail
    refine (l13Ok_any _ _ _ _ _ _ h hn).mono ?_
    rintro e w' ⟨rfl, rfl⟩
    rw [hq]
    go_wp2
    go_ret
    exact ⟨none, 0, rfl, OwnI.nil _ _ _, by simp, Below.refl _ _⟩
  · rw [quotasOf_yes hq, mapQ_len]
    obtain ⟨hc, k0, k1⟩ := quotaOk_facts hq
    obtain ⟨c1, c2, c3, c4, c5⟩ := countsOk_facts hc
    have HB := Lib.hid c3
    have HB2 := Lib.hid (counts_bd hc)
    clear c3 hc
    go_enter Try.func19, Try.ntmps19
    go_wp2_with fail
    refine (l13Ok_any _ _ _ _ _ _ h hn).mono ?_
    rintro e w1 ⟨rfl, rfl⟩
    rw [hq]
    go_wp2
    go_loopw [5, 7, 15] (fun v _ i wr => ∃ (j : Nat) (A' : Option Addr) (c' : Nat), j ≤ xs.length ∧ i = .int .i64 j ∧ v = .slice A' j c' ∧ OwnI wr w.heap.size wr.heap.size (.slice A' j c') (mapQ remF (lsum xs) k (xs.take j)) ∧ Below w.heap.size w wr)
      (fun _ _ i _ => xs.length - (intOf i).toNat)
    case atStart => exact ⟨0, _, 0, Nat.zero_le _, rfl, rfl, OwnI.empty _ (Nat.le_refl _) (by simp), (Below.refl _ _).alloc (Nat.le_refl _) _⟩
    case round =>
      obtain ⟨j, A1, cc, hj, rfl, rfl, hown, hb⟩ := hrel
      by_cases hlt : j < xs.length
      · obtain ⟨b, o, rfl, hbl, hc⟩ := (h.below hb).at_ hlt
        have hcj := hc j hlt
        clear hc
        have b1 := claim_bd (HB.out _ (ix_mem hlt)) k0 k1
        have d1 := div_bd b1.1 c4
        have d2 := mod_bd (t := ix xs j * k) c4
        have d3 := div_bd (t := ix xs j * k + lsum xs - 1) (a := lsum xs) (by omega) c4
        have hsz := hb.size
        go_wp2_with (first
          | (go_at_call 24; refine (l13Sum_any _ _ c xs _ (h.below hb) hn HB2.out).mono ?_; rintro e w' ⟨rfl, rfl⟩)
          | (at_builtin; refine wpList_append_int _ rfl _ _ rfl w.heap.size _ j _ _ _ rfl (hown.alloc _) (remF (ix xs j * k) (lsum xs)) _ 1 rfl (new_cell _ _ _ rfl) (by omega) (by simp; omega) (by simp; omega) ?_))
        intro A2 c2' w2 ho2 hon
        rw [← mapQ_take remF _ _ hlt] at ho2
        have hb2 : Below w.heap.size w w2 := (hb.alloc hsz _).trans (hon.toBelow (Nat.le_refl _) (by simp; omega))
        clear hon hown hcj
        go_wp2
        go_roundw
        case rel => exact ⟨j + 1, _, _, by omega, by go_num, rfl, ho2, hb2⟩
        case measure => simp [intOf]; omega
      · obtain rfl : j = xs.length := by omega
        rw [List.take_length] at hown
        go_wp2
        go_ret
        exact ⟨_, _, rfl, hown, hn, hb⟩
end Go.Proofs.Ytmmmgppfmcklpaa
