/- Draws of tables: spec.l16Draw, MakeTenths. -/
import Derived.Test.YtefppihanblhmaaCurD
import Derived.Test.YtefppihanblhmaaBaseR
namespace Go.Proofs.Ytefppihanblhmaa
set_option linter.unusedVariables false
open Go.RowKit
attribute [local go_sem ↓] Go.wp_at_zero Go.wp_at_succ

/-- a table as it is drawn: at most three rows and columns, small numbers -/
def DrT (k : Nat) (t : List (List Int)) : Prop := ∀ xs ∈ t, xs.length = k ∧ ∀ x ∈ xs, 0 ≤ x ∧ x ≤ 44

set_option maxHeartbeats 1000000 in
theorem l16Draw_any (p : Nat) (A : Option Addr) (n c : Nat) (w : World) (H : CurIn w p A n c) (hn : n ≤ 1048576) :
    Calls Try.prog 18 #[.pointer (some ⟨p, 0, none⟩), .int .i64 3] w fun e w' => ∃ (A' : Option Addr) (c' k : Nat) (t : List (List Int)), e = .returned (.slice A' t.length c') ∧
      OwnR w' w.heap.size w'.heap.size (.slice A' t.length c') t ∧ (1 ≤ t.length ∧ t.length ≤ 3) ∧ (1 ≤ k ∧ k ≤ 3) ∧ DrT k t ∧ Only p (p + 1) w w' := by
  go_enter Try.func18, Try.ntmps18
  go_wp2_with fail
  (with_reducible refine (l01Below_any 3 3 rfl (by decide) (by decide) p A n c _ H hn).mono ?_)
  rintro e w1 ⟨x1, rfl, hx1, H1, O1⟩
  go_wp2_with fail
  (with_reducible refine (l01Below_any 3 3 rfl (by decide) (by decide) p A n c _ H1 hn).mono ?_)
  rintro e w2 ⟨x2, rfl, hx2, H2, O2⟩
  have O := O1.trans O2
  have hp := H.lt
  have hp2 := H2.lt
  have s2 := O.size
  clear O1 O2 H1 H
  obtain ⟨r, hr⟩ : ∃ r : Nat, r = 1 + x1 := ⟨_, rfl⟩
  obtain ⟨k, hk⟩ : ∃ k : Nat, k = 1 + x2 := ⟨_, rfl⟩
  go_wp2_with fail
  go_loopw [7, 8, 9, 10] (fun v i _ _ wr => ∃ (T : List (List Int)) (A' : Option Addr) (c' : Nat), T.length ≤ r ∧ i = .int .i64 T.length ∧ v = .slice A' T.length c' ∧ OwnR wr w.heap.size wr.heap.size (.slice A' T.length c') T ∧ DrT k T ∧ CurIn wr p A n c ∧ Only p (p + 1) w wr)
    (fun _ i _ _ _ => r - (intOf i).toNat)
  case atStart => exact ⟨[], _, 0, Nat.zero_le _, rfl, rfl, OwnR.empty _ (by omega) (by simp), (fun xs hx => by cases hx), H2.below ((Below.refl _ _).alloc (Nat.le_refl _) _), OnlyC.alloc O _⟩
  case round =>
    obtain ⟨T, A1, c1, hk1, rfl, rfl, hown, hD, HC, HO⟩ := hrel
    obtain ⟨wo, rfl⟩ : ∃ wo : World, wo = wr := ⟨_, rfl⟩
    clear H2 O hp2
    have so := HO.size
    by_cases hlt : T.length < r
    · have t1 : decide ((T.length : Int) < 1 + (x1 : Int)) = true := by simp; omega
      have hp3 : p < wo.heap.size := HC.lt
      go_wp2_with fail
      go_loopw [9, 10] (fun v i wi => ∃ (l : List Int) (A2 : Option Addr) (c2 : Nat), l.length ≤ k ∧ i = .int .i64 l.length ∧ v = .slice A2 l.length c2 ∧ OwnI wi wo.heap.size wi.heap.size (.slice A2 l.length c2) l ∧ (∀ x ∈ l, 0 ≤ x ∧ x ≤ 44) ∧ CurIn wi p A n c ∧ Only p (p + 1) wo wi)
        (fun _ i _ => k - (intOf i).toNat)
      case atStart => exact ⟨[], _, 0, Nat.zero_le _, rfl, rfl, OwnI.empty _ (Nat.le_refl _) (by simp), (fun x hx => by cases hx), HC.below ((Below.refl _ _).alloc (Nat.le_refl _) _), OnlyC.alloc (Only.refl _ _ _) _⟩
      case round =>
        obtain ⟨l, A2, c2, hl, rfl, rfl, hol, hE, HCi, HOi⟩ := hrel
        have si := HOi.size
        by_cases hjl : l.length < k
        · have t2 : decide ((l.length : Int) < 1 + (x2 : Int)) = true := by simp; omega
          go_wp2_with fail
          (with_reducible refine (l01Below_any 45 45 rfl (by decide) (by decide) p A n c _ HCi hn).mono ?_)
          rintro e w3 ⟨y, rfl, hy, H3, O3⟩
          have hol3 := hol.only O3 (.inr (by omega))
          have s3 := O3.size
          have O03 := HOi.trans O3
          have hol3' := hol3.mono (Nat.le_refl _) s3
          clear hol hol3 HCi HOi O3
          go_wp2_with (at_builtin; refine wpList_append_int _ rfl _ _ rfl wo.heap.size _ l.length _ _ _ rfl (hol3'.alloc _) (y : Int) _ 1 rfl (new_cell _ _ _ rfl) (by omega) (by simp; omega) (by simp; omega) ?_)
          intro A5 c5 w4 ho4 hon
          have O04 : Only p (p + 1) wo w4 := OnlyC.more (OnlyC.alloc O03 _) hon (by omega)
          have H4 : CurIn w4 p A n c := CurIn.above (H3.below ((Below.refl _ _).alloc (Nat.le_refl _) _)) hon hp3
          clear hon hol3' H3 O03
          go_wp2_with fail
          go_roundw
          case rel => exact ⟨l ++ [(y : Int)], A5, c5, by simp; omega, by simp, by simp, by simpa using ho4, (fun x hx => by rw [List.mem_append, List.mem_singleton] at hx; rcases hx with hx | rfl; (exact hE x hx); omega), H4, O04⟩
          case measure => simp [intOf]; omega
        · have t2 : decide ((l.length : Int) < 1 + (x2 : Int)) = false := by simp; omega
          have HLK := Lib.hid (show l.length = k by omega)
          have hown2 := hown.only HOi (.inr (by omega))
          have HOt := HO.trans HOi
          clear hown HO HOi
          go_wp2_with (at_builtin; refine wpList_append_row _ rfl _ _ rfl w.heap.size wo.heap.size T.length _ _ _ rfl (hown2.alloc _) A2 _ c2 l _ _ (hol.alloc _) (Nat.le_refl _) (by simp) _ 1 rfl (new_cell _ _ _ rfl) (by omega) so (by simp; omega) ?_)
          intro A4 c4 w5 ho5 hon
          have O05 : Only p (p + 1) w w5 := OnlyC.more (OnlyC.alloc HOt _) hon (Nat.le_refl _)
          have H5 : CurIn w5 p A n c := CurIn.above (HCi.below ((Below.refl _ _).alloc (Nat.le_refl _) _)) hon hp
          clear hon hown2 hol HOt HCi HC
          go_wp2_with fail
          go_roundw
          case rel => exact ⟨T ++ [l], A4, c4, by simp; omega, by simp, by simp, by simpa using ho5, (fun xs hx => by rw [List.mem_append, List.mem_singleton] at hx; rcases hx with hx | rfl; (exact hD xs hx); exact ⟨HLK.out, hE⟩), H5, O05⟩
          case measure => simp [intOf]; omega
    · have t1 : decide ((T.length : Int) < 1 + (x1 : Int)) = false := by simp; omega
      go_wp2_with fail
      go_ret
      exact ⟨_, _, k, T, rfl, hown, by omega, by omega, hD, HO⟩

theorem makeTenths_any (A : Option Addr) (n c : Nat) (w : World) (hb : BytesAt w w.heap.size A n) (hn : n ≤ 1048576) :
    Calls Try.prog 4 #[.slice A n c, .int .i64 0] w fun e w' => ∃ (A' : Option Addr) (c' k lo : Nat) (t : List (List Int)), e = .returned (.slice A' t.length c') ∧
      OwnR w' lo w'.heap.size (.slice A' t.length c') t ∧ w.heap.size ≤ lo ∧ (1 ≤ t.length ∧ t.length ≤ 3) ∧ (1 ≤ k ∧ k ≤ 3) ∧ DrT k t ∧ Below w.heap.size w w' := by
  go_enter Try.func4, Try.ntmps4
  go_wp2_with fail
  (with_reducible refine (l32New_any 0 0 rfl A n c _ hb hn (by decide)).mono ?_)
  rintro e w1 ⟨p, rfl, hp, H1, b1⟩
  go_wp2_with fail
  (with_reducible refine (l16Draw_any p A n c _ H1 hn).mono ?_)
  rintro e w2 ⟨A', c', k, t, rfl, ho, ht, hk, hD, O⟩
  go_wp2_with fail
  go_ret
  exact ⟨_, _, k, _, t, rfl, ho, b1.size, ht, hk, hD, b1.trans (O.toBelow hp b1.size)⟩
end Go.Proofs.Ytefppihanblhmaa
