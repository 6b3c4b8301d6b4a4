/- Draws of tables: spec.l01Below, l01New, l32New, l16Draw, MakeTenths. -/
import Derived.Test.YtefppihanblhmaaCur
namespace Go.Proofs.Ytefppihanblhmaa
set_option linter.unusedVariables false
open Go.RowKit
attribute [local go_sem ↓] Go.wp_at_zero Go.wp_at_succ

theorem OnlyC.more {lo hi l2 h2 : Nat} {w w' w'' : World} (h : Only lo hi w w') (k : Only l2 h2 w' w'') (hl : w.heap.size ≤ l2) : Only lo hi w w'' :=
  ⟨k.os.trans h.os, k.tape.trans h.tape, k.output.trans h.output, Nat.le_trans h.size k.size, fun j hj hn => (k.block j (Nat.lt_of_lt_of_le hj h.size) (by omega)).trans (h.block j hj hn)⟩
theorem OnlyC.alloc {lo hi : Nat} {w w' : World} (h : Only lo hi w w') (o : Obj) : Only lo hi w (w'.alloc o) :=
  h.trans (Only.of_below ((Below.refl _ _).alloc (Nat.le_refl _) o) (Nat.le_refl _))
theorem CurIn.only {w w' : World} {p : Nat} {A : Option Addr} {n c l h : Nat} (H : CurIn w p A n c) (k : Below w.heap.size w w') : CurIn w' p A n c := H.below k

theorem l01Below_any (K : Int) (k : Nat) (hK : K = k) (hk : 1 ≤ k) (hk2 : k ≤ 256) (p : Nat) (A : Option Addr) (n c : Nat) (w : World) (H : CurIn w p A n c) (hn : n ≤ 1048576) :
    Calls Try.prog 27 #[.pointer (some ⟨p, 0, none⟩), .int .i64 K] w fun e w' => ∃ x : Nat, e = .returned (.int .i64 x) ∧ x < k ∧ CurIn w' p A n c ∧ Only p (p + 1) w w' := by
  subst hK
  go_enter Try.func27, Try.ntmps27
  go_wp2_with fail
  (with_reducible refine (l01Byte_any p A n c _ H hn).mono ?_)
  rintro e w1 ⟨x, rfl, hx0, hx1, H1, O1⟩
  obtain ⟨x, rfl⟩ : ∃ y : Nat, x = y := ⟨x.toNat, by omega⟩
  have hm : (x : Int).tmod (k : Int) = ((x % k : Nat) : Int) := rfl
  have hlt : x % k < k := Nat.mod_lt _ (by omega)
  go_wp2
  go_ret
  exact ⟨x % k, rfl, hlt, H1, O1⟩

theorem CurIn.new {w : World} {A : Option Addr} {n c : Nat} (hb : BytesAt w w.heap.size A n) (z : Int) : CurIn (w.alloc (.cells #[.slice A n c, .int .i64 0, .int .i64 z] 54)) w.heap.size A n c := by
  obtain ⟨h0, h1, h2⟩ := new_triple w (.slice A n c) (.int .i64 0) (.int .i64 z) 54 rfl
  exact ⟨0, z, ⟨h0, h1, h2, new_free w _ _ rfl 1, new_free w _ _ rfl 2, Nat.zero_le _, hb.keep fun b o _ u hu => old_cell hu _⟩⟩
set_option maxRecDepth 100000 in
theorem l01New_any (A : Option Addr) (n c : Nat) (w : World) (hb : BytesAt w w.heap.size A n) (hn : n ≤ 1048576) :
    Calls Try.prog 28 #[.slice A n c] w fun e w' => e = .returned (.pointer (some ⟨w.heap.size, 0, none⟩)) ∧ CurIn w' w.heap.size A n c ∧ Below w.heap.size w w' := by
  go_enter Try.func28, Try.ntmps28
  go_wp2
  go_loopw [3, 4] (fun h i wr => ∃ (k : Nat) (z : Int), k ≤ n ∧ k ≤ 4000 ∧ h = .int .i64 z ∧ i = .int .i64 k ∧ wr = w)
    (fun _ i _ => n - (intOf i).toNat)
  case atStart => exact ⟨0, _, Nat.zero_le _, by omega, rfl, rfl, rfl⟩
  case round =>
    obtain ⟨k, z, hk, hk4, rfl, rfl, rfl⟩ := hrel
    by_cases hlt : k < n
    · by_cases h4 : k < 4000
      · obtain ⟨b, o, rfl, hbp, hc⟩ := hb (by omega)
        obtain ⟨y, hy⟩ := hc k hlt
        clear hc
        go_wp2
        go_roundw
        case rel => exact ⟨k + 1, _, by omega, by omega, rfl, by go_num, by trivial⟩
        case measure => simp [intOf]; omega
      · go_wp2
        go_ret
        exact ⟨rfl, CurIn.new hb z, (Below.refl _ _).alloc (Nat.le_refl _) _⟩
    · obtain rfl : k = n := by omega
      go_wp2
      go_ret
      exact ⟨rfl, CurIn.new hb z, (Below.refl _ _).alloc (Nat.le_refl _) _⟩

theorem l32New_any (M : Int) (m : Nat) (hM : M = m) (A : Option Addr) (n c : Nat) (w : World) (hb : BytesAt w w.heap.size A n) (hn : n ≤ 1048576) (hm : m ≤ 1048576) :
    Calls Try.prog 19 #[.slice A n c, .int .i64 M] w fun e w' => ∃ p, e = .returned (.pointer (some ⟨p, 0, none⟩)) ∧ w.heap.size ≤ p ∧ CurIn w' p A n c ∧ Below w.heap.size w w' := by
  subst hM
  go_enter Try.func19, Try.ntmps19
  go_wp2_with fail
  (with_reducible refine (l01New_any A n c _ hb hn).mono ?_)
  rintro e w1 ⟨rfl, H1, b1⟩
  go_wp2_with fail
  go_loopw [6] (fun i wr => ∃ k : Nat, k ≤ m ∧ i = .int .i64 k ∧ CurIn wr w.heap.size A n c ∧ Below w.heap.size w wr)
    (fun i _ => m - (intOf i).toNat)
  case atStart => exact ⟨0, Nat.zero_le _, rfl, H1, b1⟩
  case round =>
    obtain ⟨k, hk, rfl, H, b⟩ := hrel
    by_cases hlt : k < m
    · go_wp2_with fail
      (with_reducible refine (l01Byte_any w.heap.size A n c _ H hn).mono ?_)
      rintro e w2 ⟨x, rfl, hx0, hx1, H2, O2⟩
      go_wp2_with fail
      go_roundw
      case rel => exact ⟨k + 1, by omega, by go_num, H2, b.trans (O2.toBelow (Nat.le_refl _) b.size)⟩
      case measure => simp [intOf]; omega
    · obtain rfl : k = m := by omega
      go_wp2_with fail
      go_ret
      exact ⟨_, rfl, Nat.le_refl _, H, b⟩
end Go.Proofs.Ytefppihanblhmaa
