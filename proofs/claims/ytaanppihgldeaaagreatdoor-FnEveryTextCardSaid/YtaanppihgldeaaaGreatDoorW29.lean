/- ScoreRanking, RunoffWinner, the reference's side. RunoffWinner, the reference's side. -/
import Derived.Test.YtaanppihgldeaaaGreatDoorW23
import Derived.Test.YtaanppihgldeaaaGreatDoorW13
import Derived.Deep.RegionHeld3
namespace Go.Proofs.YtaanppihgldeaaaGreatDoor
set_option linter.unusedSimpArgs false
set_option linter.unusedVariables false
set_option linter.unusedVariables false
open Go.RowKit

theorem slide_uniq {rs S : List Int} {x : Int} {k : Nat} (hk : k ≤ S.length) (h1 : ∀ i, i < k → rv rs x ≤ rv rs (ix S i)) (h2 : ∀ i, k ≤ i → i < S.length → rv rs (ix S i) < rv rs x) : slide rs S x S.length = k := by
  have a1 := slide_le rs S x S.length
  rcases Nat.lt_trichotomy (slide rs S x S.length) k with h | h | h
  · have := slide_right (rs := rs) (S := S) (x := x) (j := S.length) (i := k - 1) (by omega) (by omega)
    have := h1 (k - 1) (by omega)
    omega
  · exact h
  · have := slide_left (rs := rs) (S := S) (x := x) (j := S.length) (by omega)
    have := h2 (slide rs S x S.length - 1) (by omega) (by omega)
    omega
theorem sortS_ins {rs : List Int} {a k : Nat} (hk : k ≤ a) (h1 : ∀ i, i < k → rv rs (a : Int) ≤ rv rs (ix (sortS rs a) i)) (h2 : k = a ∨ rv rs (ix (sortS rs a) k) < rv rs (a : Int)) :
    sortS rs (a + 1) = (sortS rs a).take k ++ [(a : Int)] ++ (sortS rs a).drop k := by
  have hl := sortS_len rs a
  have hs : slide rs (sortS rs a) (a : Int) (sortS rs a).length = k := by
    refine slide_uniq (by omega) h1 fun i hi hil => ?_
    rcases h2 with h2 | h2
    · omega
    · by_cases e : i = k
      · subst e; exact h2
      · have := sortS_bef (rs := rs) (k := a) (i := k) (j := i) (by omega) (by omega)
        unfold bef at this
        omega
  show insS rs (sortS rs a) (a : Int) = _
  unfold insS
  rw [hs, List.append_assoc]; rfl
theorem rv_nat (rs : List Int) (a : Nat) : rv rs (a : Int) = ix rs a := by unfold rv; rw [Int.toNat_natCast]
set_option maxRecDepth 100000 in
set_option maxHeartbeats 2000000 in
theorem specScoreRanking (m : Int) (A : Option Addr) (n c : Nat) (vs : List Vt) (B : Option Addr) (l d : Nat) (ws : List Int) (w : World) (h : VotesAt w A n vs) (hn : n ≤ 1048576) (hx : ∀ v ∈ vs, v.r.length ≤ 1048576) (q : IntsAt w B l ws) (hl : l ≤ 1048576) (hp : profOk m vs = true) (hw : weightsOk m ws = true) :
    Calls Tryz.prog 184 #[.agg #[.int .i64 m, .slice A n c], .slice B l d] w fun e w' => ∃ A' c', e = .returned (.slice A' (sortS (scores m vs ws) m.toNat).length c') ∧ OwnI w' w.heap.size w'.heap.size (.slice A' (sortS (scores m vs ws) m.toNat).length c') (sortS (scores m vs ws) m.toNat) ∧ Below w.heap.size w w' := by
  have q0 := q.below (alloc_below w (.cells #[.int .i64 m, .slice A n c] 24))
  obtain rfl := h.len
  have hB := alloc_below w (.cells #[.int .i64 m, .slice A vs.length c] 24)
  obtain ⟨x0, x1⟩ := PBox.new w m A vs.length c 24 rfl
  replace h := h.below hB
  generalize hw0 : w.alloc (.cells #[.int .i64 m, .slice A vs.length c] 24) = w0 at *
  have K := Lib.hid (specL05Ok m A vs.length c vs B l d ws _ h hn hx q0 hl)
  rw [hp, hw] at K
  have F := Lib.hid (pf_of hp)
  have K2 := Lib.hid (fun W hW q => specScores m A vs.length c vs B l d ws W hW hp hw q)
  obtain ⟨M, rfl⟩ : ∃ M : Nat, m = (M : Int) := ⟨m.toNat, by have := F.out.m1; omega⟩
  have M1 : 1 ≤ M := by have := F.out.m1; omega
  have M5 : M ≤ 5 := by have := F.out.m5; omega
  have sl := scores_len (M : Int) vs ws
  rw [Int.toNat_natCast] at sl ⊢
  rw [sortS_len]
  clear hx q hp hw F
  generalize scores (M : Int) vs ws = ss at *
  rw [sl] at K2
  have SL := Lib.hid sl
  clear sl
  obtain ⟨T, hT⟩ : ∃ T, sortS ss M = T := ⟨_, rfl⟩
  rw [hT]
  have HT := Lib.hid hT
  clear hT
  go_enter Tryz.func184, Tryz.ntmps184
  go_wp2_with fail
  (with_reducible refine (K.out).mono ?_)
  rintro e w1 ⟨rfl, b1⟩
  replace x0 := cell_carry b1 x0
  replace x1 := cell_carry b1 x1
  replace q0 := q0.below b1
  replace h := h.below b1
  replace hB := hB.trans (b1.mono hB.size)
  clear b1
  clear K hw0
  go_wp2_with fail
  (with_reducible refine (K2.out _ h q0).mono ?_)
  rintro e w2 ⟨A2, c2, rfl, o2, b2⟩
  obtain ⟨g2, rfl, g21, g22⟩ := o2.head M1
  have z1 := hB.size
  replace hB := hB.trans (b2.mono hB.size)
  clear b2 K2 x0 x1 h q0
  have b3 := alloc_below w2 (.cells #[] 3)
  have o3 := OwnI.empty w2 (lo := w2.heap.size) (hi := (w2.alloc (.cells #[] 3)).heap.size) (Nat.le_refl _) (by simp)
  go_wp2
  go_loopw [6, 7, 8, 9, 20] (fun v _ _ _ i wr => ∃ (a : Nat) (A' : Option Addr) (c' : Nat), a ≤ M ∧ i = .int .i64 a ∧ v = .slice A' a c' ∧ (∃ g, A' = some ⟨g, 0, none⟩) ∧ OwnI wr w2.heap.size wr.heap.size (.slice A' a c') (sortS ss a) ∧ Below w2.heap.size w2 wr) (fun _ _ _ _ i _ => M - (intOf i).toNat)
  case atStart => exact ⟨0, _, 0, Nat.zero_le _, rfl, rfl, ⟨_, rfl⟩, o3, b3⟩
  case round =>
    clear o3 b3
    obtain ⟨a, A1, c1, ha, rfl, rfl, ⟨ga, rfl⟩, ho, hb⟩ := hrel
    obtain ⟨wo, rfl⟩ : ∃ wo, wo = wr := ⟨_, rfl⟩
    have z2 := hb.size
    by_cases hlt : a < M
    · have Sl := sortS_len ss a
      have SM := Lib.hid (fun i (hi : i < a) => sortS_at (rs := ss) (k := a) (j := i) hi)
      have HINS := Lib.hid (fun k hk h1 h2 => sortS_ins (rs := ss) (a := a) (k := k) hk h1 h2)
      have HO := Lib.hid (fun i (hi : i < M) => o2.cellAt i hi)
      have da := cell_carry hb (o2.cellAt a hlt)
      have hcc := ho.ints.2.2.1
      have RVA := Lib.hid (rv_nat ss a)
      generalize sortS ss a = S at *
      have HSL := Lib.hid Sl
      clear Sl
      have a1 : (a : Int) < (M : Int) := by omega
      go_wp2
      go_loopw [8] (fun i wr => ∃ k : Nat, k ≤ a ∧ i = .int .i64 k ∧ Hid (∀ i, i < k → rv ss (a : Int) ≤ rv ss (ix S i)) ∧ Hid (∃ q, wr = wo.drewN q)) (fun i _ => a - (intOf i).toNat)
      case atStart => exact ⟨0, Nat.zero_le _, rfl, fun i hi => by omega, ⟨0, rfl⟩⟩
      case round =>
        obtain ⟨k, hk, rfl, HK, HQ⟩ := hrel
        obtain ⟨q, hq⟩ := HQ.out
        have HWR := Lib.hid hq
        clear HQ hq
        by_cases hka : k < a
        · have dk : wr.cell? ⟨ga, k, none⟩ = some (.int .i64 (ix S k)) := by rw [HWR.out]; exact ho.cellAt k hka
          have sm := SM.out k hka
          obtain ⟨b, hbx⟩ : ∃ b : Nat, ix S k = (b : Int) := ⟨(ix S k).toNat, by omega⟩
          have db : wr.cell? ⟨g2, b, none⟩ = some (.int .i64 (ix ss b)) := by rw [HWR.out]; exact (cell_carry hb (HO.out b (by omega)) : wo.cell? ⟨g2, b, none⟩ = some (.int .i64 (ix ss b)))
          have da' : wr.cell? ⟨g2, a, none⟩ = some (.int .i64 (ix ss a)) := by rw [HWR.out]; exact da
          have hrvb : rv ss (ix S k) = ix ss b := by rw [hbx, rv_nat]
          rw [hbx] at dk sm
          have k1 : (k : Int) < (a : Int) := by omega
          have b1 : (b : Int) < (M : Int) := by omega
          have kdec : decide ((k : Int) < (a : Int)) = true := decide_eq_true (by omega)
          by_cases hge : ix ss a ≤ ix ss b
          · have HN : Hid (∀ i, i < k + 1 → rv ss (a : Int) ≤ rv ss (ix S i)) := by
              intro i hi
              by_cases e : i = k
              · subst e; rw [hrvb, RVA.out]; exact hge
              · exact HK.out i (by omega)
            generalize ix ss a = X at *
            generalize ix ss b = Y at *
            have t0 : decide (X ≤ Y) = true := decide_eq_true hge
            clear hge hrvb sm hbx
            go_wp2
            go_quiet (fail)
            go_wp2
            go_roundw
            case rel => exact ⟨k + 1, by omega, by go_num, HN, ⟨q + nq, by rw [HWR.out, World.drewN_drewN]⟩⟩
            case measure => simp [intOf]; omega
          · have HI := Lib.hid (HINS.out k hk HK.out (.inr (by rw [hrvb, RVA.out]; omega)))
            generalize ix ss a = X at *
            generalize ix ss b = Y at *
            have t0 : decide (X ≤ Y) = false := decide_eq_false hge
            clear hge hrvb sm hbx
            go_wp2
            go_quiet (fail)
            have hw5 : wr.drewN nq = wo.drewN (q + nq) := by rw [HWR.out, World.drewN_drewN]
            have HW5 := Lib.hid hw5
            clear hw5 dk db da da'
            generalize wr.drewN nq = w5 at *
            have hb5 : Below w2.heap.size w2 w5 := by rw [HW5.out]; exact below_drewN hb _
            have ho5 : OwnI w5 w2.heap.size w5.heap.size (.slice (some ⟨ga, 0, none⟩) a c1) S := by rw [HW5.out]; exact ho
            have z5 := hb5.size
            have b6 := alloc_below w5 (.cells #[] 3)
            have o6 := OwnI.empty w5 (lo := w5.heap.size) (hi := w5.heap.size + 1) (Nat.le_refl _) (by omega)
            have i6 := (ho5.at_.take hk).below b6
            have k3 : (k : Int) ≤ (c1 : Int) := by omega
            have k4 : (0 : Int) ≤ (k : Int) := by omega
            have k5 : (k : Int) ≤ (a : Int) := by omega
            clear ho hb
            go_wp2_with (at_builtin; refine wpList_append_ints _ rfl _ _ rfl w5.heap.size (w5.heap.size + 1) 0 0 _ [] rfl o6 (some ⟨ga, 0, none⟩) k c1 (S.take k) rfl i6 (by omega) (by simp) (by simp) ?_)
            intro A7 c7 w7 o7 on7
            have ho7 := (ho5.alloc (.cells #[] 3)).only on7 (.inl (Nat.le_refl _))
            have hb7 := (hb5.alloc z5 (.cells #[] 3)).trans (on7.toBelow z5 (by simp; omega))
            have z7 : w5.heap.size ≤ w7.heap.size := by have := on7.size; simp at this; omega
            (try rw [Nat.zero_add] at o7)
            (try rw [List.nil_append] at o7)
            clear on7 o6 i6 b6
            go_wp2_with (at_builtin; refine wpList_append_int _ rfl _ _ rfl (w5.heap.size) _ (k) _ _ _ (by simp [Act.eval, Act.put]) (o7.alloc _) (a : Int) _ 1 rfl (new_cell _ _ _ rfl) (by omega) (by simp; omega) (by simp; omega) ?_)
            intro A8 c8 w8 o8 on8
            have ho8 := (ho7.alloc (.cells #[.int .i64 (a : Int)] 3)).only on8 (.inl (Nat.le_refl _))
            have hb8 := (hb7.alloc (by omega) (.cells #[.int .i64 (a : Int)] 3)).trans (on8.toBelow z5 (by simp; omega))
            have z8 : w5.heap.size ≤ w8.heap.size := by have := on8.size; simp at this; omega
            clear on8 o7 ho7 hb7
            have hcap : ¬ c1 = k := by omega
            have i8 : IntsAt w8 (some ⟨ga, k, none⟩) (a - k) (S.drop k) := by have := ho8.at_.drop hk; rwa [Nat.zero_add] at this
            have hcap2 : ¬ (k = c1) := fun e => hcap e.symm
            go_wp2_with (at_builtin; refine wpList_append_ints _ rfl _ _ rfl w5.heap.size w8.heap.size (k + 1) c8 A8 _ rfl o8 (some ⟨ga, k, none⟩) (a - k) (c1 - k) (S.drop k) (by simp [Act.eval, Act.put, hcap]) i8 (by omega) (by omega) (by omega) ?_)
            intro A9 c9 w9 o9 on9
            have el : k + 1 + (a - k) = a + 1 := by omega
            try rw [el] at o9
            replace o9 : OwnI w9 w5.heap.size w9.heap.size (.slice A9 (a + 1) c9) (sortS ss (a + 1)) := by rw [HI.out]; simpa using o9
            have hb9 := hb8.trans (on9.toBelow z5 hb8.size)
            obtain ⟨g9, rfl, _, _⟩ := o9.head (by omega)
            have O9 := Lib.hid (o9.mono z5 (Nat.le_refl _))
            have EL := Lib.hid el
            clear on9 o9 o8 ho8 hb8 i8 el hcap
            go_wp2
            go_roundw
            case rel => exact ⟨a + 1, _, c9, by omega, by go_num, (by first | rfl | rw [EL.out]), ⟨g9, rfl⟩, O9.out, hb9⟩
            case measure => simp [intOf]; omega
        · obtain rfl : k = a := by omega
          have HI := Lib.hid (HINS.out k hk HK.out (.inl rfl))
          have kdec : decide ((k : Int) < (k : Int)) = false := decide_eq_false (by omega)
          go_wp2
          go_quiet (fail)
          have hw5 : wr.drewN nq = wo.drewN (q + nq) := by rw [HWR.out, World.drewN_drewN]
          have HW5 := Lib.hid hw5
          clear hw5 da
          generalize wr.drewN nq = w5 at *
          have hb5 : Below w2.heap.size w2 w5 := by rw [HW5.out]; exact below_drewN hb _
          have ho5 : OwnI w5 w2.heap.size w5.heap.size (.slice (some ⟨ga, 0, none⟩) k c1) S := by rw [HW5.out]; exact ho
          have z5 := hb5.size
          have b6 := alloc_below w5 (.cells #[] 3)
          have o6 := OwnI.empty w5 (lo := w5.heap.size) (hi := w5.heap.size + 1) (Nat.le_refl _) (by omega)
          have i6 := (ho5.at_.take hk).below b6
          have k3 : (k : Int) ≤ (c1 : Int) := by omega
          have k4 : (0 : Int) ≤ (k : Int) := by omega
          have k5 : (k : Int) ≤ (k : Int) := by omega
          clear ho hb
          go_wp2_with (at_builtin; refine wpList_append_ints _ rfl _ _ rfl w5.heap.size (w5.heap.size + 1) 0 0 _ [] rfl o6 (some ⟨ga, 0, none⟩) k c1 (S.take k) rfl i6 (by omega) (by simp) (by simp) ?_)
          intro A7 c7 w7 o7 on7
          have ho7 := (ho5.alloc (.cells #[] 3)).only on7 (.inl (Nat.le_refl _))
          have hb7 := (hb5.alloc z5 (.cells #[] 3)).trans (on7.toBelow z5 (by simp; omega))
          have z7 : w5.heap.size ≤ w7.heap.size := by have := on7.size; simp at this; omega
          (try rw [Nat.zero_add] at o7)
          (try rw [List.nil_append] at o7)
          clear on7 o6 i6 b6
          go_wp2_with (at_builtin; refine wpList_append_int _ rfl _ _ rfl (w5.heap.size) _ (k) _ _ _ (by simp [Act.eval, Act.put]) (o7.alloc _) (k : Int) _ 1 rfl (new_cell _ _ _ rfl) (by omega) (by simp; omega) (by simp; omega) ?_)
          intro A8 c8 w8 o8 on8
          have ho8 := (ho7.alloc (.cells #[.int .i64 (k : Int)] 3)).only on8 (.inl (Nat.le_refl _))
          have hb8 := (hb7.alloc (by omega) (.cells #[.int .i64 (k : Int)] 3)).trans (on8.toBelow z5 (by simp; omega))
          have z8 : w5.heap.size ≤ w8.heap.size := by have := on8.size; simp at this; omega
          clear on8 o7 ho7 hb7
          by_cases hcap : c1 = k
          · have hak : k - k = 0 := by omega
            have i8 : IntsAt w8 (some ⟨ga, 0, none⟩) (k - k) (S.drop k) := ⟨by rw [List.length_drop, HSL.out], fun h => by omega⟩
            go_wp2_with (at_builtin; refine wpList_append_ints _ rfl _ _ rfl w5.heap.size w8.heap.size (k + 1) c8 A8 _ rfl o8 (some ⟨ga, 0, none⟩) (k - k) (c1 - k) (S.drop k) (by simp [Act.eval, Act.put, hcap]) i8 (by omega) (by omega) (by omega) ?_)
            intro A9 c9 w9 o9 on9
            have el : k + 1 + (k - k) = k + 1 := by omega
            try rw [el] at o9
            replace o9 : OwnI w9 w5.heap.size w9.heap.size (.slice A9 (k + 1) c9) (sortS ss (k + 1)) := by rw [HI.out]; simpa using o9
            have hb9 := hb8.trans (on9.toBelow z5 hb8.size)
            obtain ⟨g9, rfl, _, _⟩ := o9.head (by omega)
            have O9 := Lib.hid (o9.mono z5 (Nat.le_refl _))
            have EL := Lib.hid el
            clear on9 o9 o8 ho8 hb8 i8 el hcap
            go_wp2
            go_roundw
            case rel => exact ⟨k + 1, _, c9, by omega, by go_num, (by first | rfl | rw [EL.out]), ⟨g9, rfl⟩, O9.out, hb9⟩
            case measure => simp [intOf]; omega
          · have i8 : IntsAt w8 (some ⟨ga, k, none⟩) (k - k) (S.drop k) := by have := ho8.at_.drop hk; rwa [Nat.zero_add] at this
            have hcap2 : ¬ (k = c1) := fun e => hcap e.symm
            go_wp2_with (at_builtin; refine wpList_append_ints _ rfl _ _ rfl w5.heap.size w8.heap.size (k + 1) c8 A8 _ rfl o8 (some ⟨ga, k, none⟩) (k - k) (c1 - k) (S.drop k) (by simp [Act.eval, Act.put, hcap]) i8 (by omega) (by omega) (by omega) ?_)
            intro A9 c9 w9 o9 on9
            have el : k + 1 + (k - k) = k + 1 := by omega
            try rw [el] at o9
            replace o9 : OwnI w9 w5.heap.size w9.heap.size (.slice A9 (k + 1) c9) (sortS ss (k + 1)) := by rw [HI.out]; simpa using o9
            have hb9 := hb8.trans (on9.toBelow z5 hb8.size)
            obtain ⟨g9, rfl, _, _⟩ := o9.head (by omega)
            have O9 := Lib.hid (o9.mono z5 (Nat.le_refl _))
            have EL := Lib.hid el
            clear on9 o9 o8 ho8 hb8 i8 el hcap
            go_wp2
            go_roundw
            case rel => exact ⟨k + 1, _, c9, by omega, by go_num, (by first | rfl | rw [EL.out]), ⟨g9, rfl⟩, O9.out, hb9⟩
            case measure => simp [intOf]; omega
    · obtain rfl : a = M := by omega
      rw [HT.out] at ho
      have hB5 := hB.trans (hb.mono hB.size)
      have z5 := hB.size
      go_wp2
      go_ret
      exact ⟨_, _, rfl, ho.mono z5 (Nat.le_refl _), hB5⟩
end Go.Proofs.YtaanppihgldeaaaGreatDoor
namespace Go.Proofs.YtaanppihgldeaaaGreatDoor
set_option linter.unusedSimpArgs false
set_option linter.unusedVariables false
set_option linter.unusedVariables false
open Go.RowKit

set_option maxHeartbeats 1000000 in
theorem specRunoff (m : Int) (A : Option Addr) (n c : Nat) (vs : List Vt) (w : World) (h : VotesAt w A n vs) (hn : n ≤ 1048576) (hx : ∀ v ∈ vs, v.r.length ≤ 1048576) :
    Calls Tryz.prog 135 #[.agg #[.int .i64 m, .slice A n c]] w fun e w' => e = .returned (.int .i64 (runoffW m vs)) ∧ Below w.heap.size w w' := by
  obtain rfl := h.len
  have hB := alloc_below w (.cells #[.int .i64 m, .slice A vs.length c] 24)
  obtain ⟨x0, x1⟩ := PBox.new w m A vs.length c 24 rfl
  replace h := h.below hB
  generalize hw0 : w.alloc (.cells #[.int .i64 m, .slice A vs.length c] 24) = w0 at *
  have K := Lib.hid (specProfileOk m A vs.length c vs _ h hn hx)
  have HX := Lib.hid hx
  unfold runoffW
  clear hx
  cases hp : profOk m vs
  · rw [hp] at K
    rw [if_neg (by simp)]
    go_enter Tryz.func135, Tryz.ntmps135
    go_wp2_with fail
    (with_reducible refine (K.out).mono ?_)
    rintro e w1 ⟨rfl, b1⟩
    replace hB := hB.trans (b1.mono hB.size)
    clear b1
    go_wp2
    go_ret
    exact ⟨rfl, hB⟩
  rw [hp] at K
  rw [if_pos rfl]
  have F := Lib.hid (pf_of hp)
  have HP := Lib.hid hp
  clear hp
  obtain ⟨M, rfl⟩ : ∃ M : Nat, m = (M : Int) := ⟨m.toNat, by have := F.out.m1; omega⟩
  have M1 : 1 ≤ M := by have := F.out.m1; omega
  have M5 : M ≤ 5 := by have := F.out.m5; omega
  rw [Int.toNat_natCast]
  have PL : (plurW (M : Int)).length ≤ 5 := wts_len
  have WO := Lib.hid (plur_ok (m := (M : Int)) (by omega) (by omega))
  have K2 := Lib.hid (fun B l d W hW q hl => specScoreRanking (M : Int) A vs.length c vs B l d (plurW (M : Int)) W hW hn HX.out q hl HP.out WO.out)
  have SL := sortS_len (scores (M : Int) vs (plurW (M : Int))) M
  rw [Int.toNat_natCast] at K2
  generalize sortS (scores (M : Int) vs (plurW (M : Int))) M = T at *
  rw [SL] at K2
  have PLP := Lib.hid (fun W => specPlurality (M : Int) W)
  generalize plurW (M : Int) = ws at *
  have SL1 := Nat.le_of_eq SL
  have SL2 := Nat.le_of_eq SL.symm
  clear SL
  by_cases h1 : M = 1
  · have h1b : ((M : Int) == 1) = true := by rw [h1]; rfl
    rw [if_pos (by omega)]
    clear h1
    go_enter Tryz.func135, Tryz.ntmps135
    go_wp2_with fail
    (with_reducible refine (K.out).mono ?_)
    rintro e w1 ⟨rfl, b1⟩
    replace x0 := cell_carry b1 x0
    replace x1 := cell_carry b1 x1
    replace h := h.below b1
    replace hB := hB.trans (b1.mono hB.size)
    clear b1
    clear K hw0
    have hbw := (Below.refl w1.heap.size w1).drew
    go_upto_region 3 with fail
    go_region_held3 (fun w' => w'.cell? ⟨w.heap.size, 0, none⟩ = some (.int .i64 (M : Int)) ∧ w'.cell? ⟨w.heap.size, 1, none⟩ = some (.slice A vs.length c)) ((refine ⟨?_, ?_⟩ <;> (first | assumption | go_keep)))
      (first
        | (go_at_call 129; (with_reducible refine (PLP.out _).mono ?_); rintro e w2 ⟨A2, c2, rfl, o2, b2⟩; have x0 := cell_carry b2 x0; have x1 := cell_carry b2 x1; have hbw := hbw.trans (b2.mono hbw.size))
        | (go_at_call 184; have KK2 := K2.out _ _ c2 _ (h.below hbw) o2.at_ (by omega); (with_reducible refine KK2.mono ?_); rintro e w3 ⟨A3, c3, rfl, o3, b3⟩; have x0 := cell_carry b3 x0; have x1 := cell_carry b3 x1; have hbw := hbw.trans (b3.mono hbw.size)))
    go_wp2
    go_ret
    exact ⟨rfl, hB.trans (hbw.mono hB.size)⟩
  rw [if_neg (by omega)]
  have h1b : ((M : Int) == 1) = false := by rw [beq_eq_false_iff_ne]; omega
  go_enter Tryz.func135, Tryz.ntmps135
  go_wp2_with fail
  (with_reducible refine (K.out).mono ?_)
  rintro e w1 ⟨rfl, b1⟩
  replace x0 := cell_carry b1 x0
  replace x1 := cell_carry b1 x1
  replace h := h.below b1
  replace hB := hB.trans (b1.mono hB.size)
  clear b1
  clear K hw0
  have hbw := (Below.refl w1.heap.size w1).drew
  go_upto_region 3 with fail
  go_region_held3 (fun w' => w'.cell? ⟨w.heap.size, 0, none⟩ = some (.int .i64 (M : Int)) ∧ w'.cell? ⟨w.heap.size, 1, none⟩ = some (.slice A vs.length c)) ((refine ⟨?_, ?_⟩ <;> (first | assumption | go_keep)))
    (first
      | (go_at_call 129; (with_reducible refine (PLP.out _).mono ?_); rintro e w2 ⟨A2, c2, rfl, o2, b2⟩; have x0 := cell_carry b2 x0; have x1 := cell_carry b2 x1; have hbw := hbw.trans (b2.mono hbw.size))
      | (go_at_call 184; have KK2 := K2.out _ _ c2 _ (h.below hbw) o2.at_ (by omega); (with_reducible refine KK2.mono ?_); rintro e w3 ⟨A3, c3, rfl, o3, b3⟩; have x0 := cell_carry b3 x0; have x1 := cell_carry b3 x1; have hbw := hbw.trans (b3.mono hbw.size)))
  obtain ⟨g3, rfl, _, _⟩ := o3.head (by omega)
  have d0 := o3.cellAt 0 (by omega)
  have d1 := o3.cellAt 1 (by omega)
  have i1 : (1 : Int) < (M : Int) := by omega
  have i0 : (0 : Int) < (M : Int) := by omega
  replace h := h.below hbw
  replace hB := hB.trans (hbw.mono hB.size)
  have KB := Lib.hid (fun a b W hW => specBeats (M : Int) A vs.length c vs a b W hW F.out)
  clear o3 o2 b2 b3 hbw PLP K2 h1
  obtain ⟨t0, ht0⟩ : ∃ x, ix T 0 = x := ⟨_, rfl⟩
  obtain ⟨t1, ht1⟩ : ∃ x, ix T 1 = x := ⟨_, rfl⟩
  rw [ht0] at d0
  rw [ht1] at d1
  have HT0 := Lib.hid ht0
  have HT1 := Lib.hid ht1
  clear ht0 ht1
  by_cases hlt : t0 < t1
  · have HR := Lib.hid (roT_lt (vs := vs) hlt)
    have nlt : ¬ (t1 < t0) := by omega
    go_wp2
    go_quiet (fail)
    have hB4 : Below w.heap.size w (w3.drewN nq) := below_drewN hB _
    have h4 : VotesAt (w3.drewN nq) A vs.length vs := h
    have d04 : (w3.drewN nq).cell? ⟨g3, 0, none⟩ = some (.int .i64 t0) := d0
    have d14 : (w3.drewN nq).cell? ⟨g3, 1, none⟩ = some (.int .i64 t1) := d1
    have x04 : (w3.drewN nq).cell? ⟨w.heap.size, 0, none⟩ = some (.int .i64 (M : Int)) := x0
    have x14 : (w3.drewN nq).cell? ⟨w.heap.size, 1, none⟩ = some (.slice A vs.length c) := x1
    clear d0 d1 h hB x0 x1
    generalize w3.drewN nq = w4 at *
    go_wp2
    go_quiet (fail)
    go_wp2_with fail
    (with_reducible refine (KB.out t1 t0 (w4.drewN nq) (h4.drewN _)).mono ?_)
    rintro e w5 ⟨rfl, b5⟩
    have hB5 := hB4.trans ((below_of_drewN (w := w4) (w' := w4.drewN nq) rfl).trans b5 |>.mono hB4.size)
    generalize beatsP vs t1 t0 = q at *
    cases q
    · go_wp2
      go_ret
      exact ⟨ret_i (by rw [HT0.out, HT1.out]; simpa using HR.out.symm), hB5⟩
    · go_wp2
      go_ret
      exact ⟨ret_i (by rw [HT0.out, HT1.out]; simpa using HR.out.symm), hB5⟩
  · have HR := Lib.hid (roT_ge (vs := vs) hlt)
    have e1 : (if t1 < t0 then t1 else t0) = t1 := by split <;> omega
    have e2 : (if t0 < t1 then t1 else t0) = t0 := by split <;> omega
    go_wp2
    go_quiet (fail)
    have hB4 : Below w.heap.size w (w3.drewN nq) := below_drewN hB _
    have h4 : VotesAt (w3.drewN nq) A vs.length vs := h
    have d04 : (w3.drewN nq).cell? ⟨g3, 0, none⟩ = some (.int .i64 t0) := d0
    have d14 : (w3.drewN nq).cell? ⟨g3, 1, none⟩ = some (.int .i64 t1) := d1
    have x04 : (w3.drewN nq).cell? ⟨w.heap.size, 0, none⟩ = some (.int .i64 (M : Int)) := x0
    have x14 : (w3.drewN nq).cell? ⟨w.heap.size, 1, none⟩ = some (.slice A vs.length c) := x1
    clear d0 d1 h hB x0 x1
    generalize w3.drewN nq = w4 at *
    go_wp2
    go_quiet (fail)
    go_wp2_with fail
    (with_reducible refine (KB.out t0 t1 (w4.drewN nq) (h4.drewN _)).mono ?_)
    rintro e w5 ⟨rfl, b5⟩
    have hB5 := hB4.trans ((below_of_drewN (w := w4) (w' := w4.drewN nq) rfl).trans b5 |>.mono hB4.size)
    generalize beatsP vs t0 t1 = q at *
    cases q
    · go_wp2
      go_ret
      exact ⟨ret_i (by rw [HT0.out, HT1.out]; simpa using HR.out.symm), hB5⟩
    · go_wp2
      go_ret
      exact ⟨ret_i (by rw [HT0.out, HT1.out]; simpa using HR.out.symm), hB5⟩
end Go.Proofs.YtaanppihgldeaaaGreatDoor
