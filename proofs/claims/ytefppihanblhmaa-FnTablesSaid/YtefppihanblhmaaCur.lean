/- The cursor of the draws (spec.l01Cur): it lies in a block p of its own, and reads a slice of bytes. A draw gives some number in its bounds. -/
import Derived.Test.YtefppihanblhmaaPair
import Derived.Deep.DrawnRows
import Derived.Deep.DeepCutAuto
import Derived.Laws.Bits128
import Derived.Laws.Shifts
namespace Go.Proofs.Ytefppihanblhmaa
set_option linter.unusedVariables false
open Go.RowKit
attribute [local go_sem ↓] Go.wp_at_zero Go.wp_at_succ

theorem and255 (n : Int) : bits .and .i64 n 255 = n % 256 := by
  have h1 : (BitVec.ofInt 64 255).toNat = 2 ^ 8 - 1 := by decide
  have key : (BitVec.ofInt 64 n &&& BitVec.ofInt 64 255).toNat = (n % ((2 ^ 64 : Nat) : Int)).toNat % 2 ^ 8 := by
    rw [BitVec.toNat_and, BitVec.toNat_ofInt, h1, Nat.and_two_pow_sub_one_eq_mod]
  show IntKind.i64.wrap ((BitVec.ofInt 64 n &&& BitVec.ofInt 64 255).toNat : Nat) = n % 256
  rw [key, IntKind.wrap_i64]
  omega
/-- n bytes lie at A, below block p -/
def BytesAt (w : World) (p : Nat) (A : Option Addr) (n : Nat) : Prop := 0 < n → ∃ b o, A = some ⟨b, o, none⟩ ∧ b < p ∧ ∀ j, j < n → ∃ x, w.cell? ⟨b, o + j, none⟩ = some (.int .u8 x)
structure CurAt (w : World) (p : Nat) (A : Option Addr) (n c i : Nat) (h : Int) : Prop where
  cb : w.cell? ⟨p, 0, none⟩ = some (.slice A n c)
  ci : w.cell? ⟨p, 1, none⟩ = some (.int .i64 i)
  ch : w.cell? ⟨p, 2, none⟩ = some (.int .i64 h)
  fi : w.frozen? ⟨p, 1, none⟩ = false
  fh : w.frozen? ⟨p, 2, none⟩ = false
  le : i ≤ n
  by_ : BytesAt w p A n
theorem BytesAt.keep {w w' : World} {p : Nat} {A : Option Addr} {n : Nat} (h : BytesAt w p A n) (hk : ∀ b o, b < p → ∀ u, w.cell? ⟨b, o, none⟩ = some u → w'.cell? ⟨b, o, none⟩ = some u) : BytesAt w' p A n := fun hn => by
  obtain ⟨b, o, e, hb, hc⟩ := h hn
  exact ⟨b, o, e, hb, fun j hj => (hc j hj).imp fun x hx => hk _ _ hb _ hx⟩
theorem CurAt.setH {w : World} {p : Nat} {A : Option Addr} {n c i : Nat} {h : Int} (H : CurAt w p A n c i h) (v : Int) : CurAt (w.setCell ⟨p, 2, none⟩ (.int .i64 v)) p A n c i v where
  cb := (World.cell?_setCell_other _ _ _ _ (by simp)).trans H.cb
  ci := (World.cell?_setCell_other _ _ _ _ (by simp)).trans H.ci
  ch := World.cell?_setCell_same _ _ _ H.ch
  fi := by rw [World.frozen?_setCell]; exact H.fi
  fh := by rw [World.frozen?_setCell]; exact H.fh
  le := H.le
  by_ := H.by_.keep fun b o hb u hu => (World.cell?_setCell_other _ _ _ _ (by simp)).trans hu
theorem CurAt.setI {w : World} {p : Nat} {A : Option Addr} {n c i : Nat} {h : Int} (H : CurAt w p A n c i h) (hi : i < n) {v : Int} (hv : v = ((i + 1 : Nat) : Int)) : CurAt (w.setCell ⟨p, 1, none⟩ (.int .i64 v)) p A n c (i + 1) h where
  cb := (World.cell?_setCell_other _ _ _ _ (by simp)).trans H.cb
  ci := by rw [hv]; exact World.cell?_setCell_same _ _ _ H.ci
  ch := (World.cell?_setCell_other _ _ _ _ (by simp)).trans H.ch
  fi := by rw [World.frozen?_setCell]; exact H.fi
  fh := by rw [World.frozen?_setCell]; exact H.fh
  le := hi
  by_ := H.by_.keep fun b o hb u hu => (World.cell?_setCell_other _ _ _ _ (by simp)).trans hu
theorem CurAt.below {w w' : World} {p : Nat} {A : Option Addr} {n c i : Nat} {h : Int} (H : CurAt w p A n c i h) (b : Below w.heap.size w w') : CurAt w' p A n c i h where
  cb := cell_carry b H.cb
  ci := cell_carry b H.ci
  ch := cell_carry b H.ch
  fi := (b.frozen (p := ⟨p, 1, none⟩) (cell_lt H.ci)).trans H.fi
  fh := (b.frozen (p := ⟨p, 2, none⟩) (cell_lt H.ch)).trans H.fh
  le := H.le
  by_ := H.by_.keep fun _ _ _ _ hu => cell_carry b hu
theorem CurAt.above {w w' : World} {p : Nat} {A : Option Addr} {n c i l r : Nat} {h : Int} (H : CurAt w p A n c i h) (o : Only l r w w') (hl : p < l) : CurAt w' p A n c i h where
  cb := o.cell H.cb (by show ¬ (l ≤ p ∧ p < r); omega)
  ci := o.cell H.ci (by show ¬ (l ≤ p ∧ p < r); omega)
  ch := o.cell H.ch (by show ¬ (l ≤ p ∧ p < r); omega)
  fi := o.frozen H.ci H.fi (by show ¬ (l ≤ p ∧ p < r); omega)
  fh := o.frozen H.ch H.fh (by show ¬ (l ≤ p ∧ p < r); omega)
  le := H.le
  by_ := H.by_.keep fun b q hb _ hu => o.cell hu (by show ¬ (l ≤ b ∧ b < r); omega)
theorem CurAt.lt {w : World} {p : Nat} {A : Option Addr} {n c i : Nat} {h : Int} (H : CurAt w p A n c i h) : p < w.heap.size := cell_lt H.ci
/-- the cursor, wherever it stands -/
def CurIn (w : World) (p : Nat) (A : Option Addr) (n c : Nat) : Prop := ∃ i h, CurAt w p A n c i h
theorem CurIn.below {w w' : World} {p : Nat} {A : Option Addr} {n c : Nat} (H : CurIn w p A n c) (b : Below w.heap.size w w') : CurIn w' p A n c := by
  obtain ⟨i, h, H⟩ := H; exact ⟨i, h, H.below b⟩
theorem CurIn.above {w w' : World} {p : Nat} {A : Option Addr} {n c l r : Nat} (H : CurIn w p A n c) (o : Only l r w w') (hl : p < l) : CurIn w' p A n c := by
  obtain ⟨i, h, H⟩ := H; exact ⟨i, h, H.above o hl⟩
theorem CurIn.lt {w : World} {p : Nat} {A : Option Addr} {n c : Nat} (H : CurIn w p A n c) : p < w.heap.size := by
  obtain ⟨i, h, H⟩ := H; exact H.lt
theorem OnlyC.set (w : World) (g j : Nat) (u : Value) : Only g (g + 1) w (w.setCell ⟨g, j, none⟩ u) :=
  ⟨rfl, rfl, rfl, by simp [World.setCell], fun k _ hk => Below.heap_setCell _ _ _ _ (by simp; omega)⟩
theorem OnlyC.drewN {lo hi m : Nat} {w w' : World} (h : Only lo hi w w') : Only lo hi w (w'.drewN m) := h.trans (Only.of_below (below_drewN (Below.refl w'.heap.size w') m) (Nat.le_refl _))

set_option maxHeartbeats 1000000 in
theorem l01Byte_any (p : Nat) (A : Option Addr) (n c : Nat) (w : World) (H : CurIn w p A n c) (hn : n ≤ 1048576) :
    Calls Try.prog 29 #[.pointer (some ⟨p, 0, none⟩)] w fun e w' => ∃ x : Int, e = .returned (.int .i64 x) ∧ 0 ≤ x ∧ x ≤ 255 ∧ CurIn w' p A n c ∧ Only p (p + 1) w w' := by
  obtain ⟨i, h, H⟩ := H
  have hch := H.ch
  have hfh := H.fh
  go_enter Try.func29, Try.ntmps29
  go_wp2
  obtain ⟨w1, hw1⟩ : ∃ w1, w1 = w.setCell ⟨p, 2, none⟩ (Value.int IntKind.i64 (wrap64 (wrap64 (h * 6364136223846793005) + 1442695040888963407))) := ⟨_, rfl⟩
  have O1 : Only p (p + 1) w w1 := by rw [hw1]; exact OnlyC.set _ _ _ _
  have H1 := H.setH (wrap64 (wrap64 (h * 6364136223846793005) + 1442695040888963407))
  rw [← hw1] at H1 ⊢
  clear hw1 H hch hfh
  obtain ⟨h1, hh1⟩ : ∃ h1, h1 = wrap64 (wrap64 (h * 6364136223846793005) + 1442695040888963407) := ⟨_, rfl⟩
  rw [← hh1] at H1
  clear hh1
  have hcb := H1.cb
  have hci := H1.ci
  have hch := H1.ch
  have hle := H1.le
  go_quiet (fail)
  obtain ⟨x, hx⟩ : ∃ x, x = bits BinOp.and IntKind.i64 (bits BinOp.xor IntKind.i64 (h1 / 8589934592) (h1 / 35184372088832)) 255 := ⟨_, rfl⟩
  have hx0 : 0 ≤ x ∧ x ≤ 255 := by rw [hx, and255]; omega
  rw [← hx]
  clear hx
  have b2 : Below w1.heap.size w1 (w1.drewN nq) := below_of_drewN rfl
  have H2 := H1.below b2
  have O2 : Only p (p + 1) w (w1.drewN nq) := OnlyC.drewN O1
  clear H1 O1 hcb hci hch b2
  generalize w1.drewN nq = w2 at *
  have hcb := H2.cb
  have hci := H2.ci
  have hch := H2.ch
  go_upto_region 3 with fail
  by_cases hlt : i < n
  · have t1 : decide ((i : Int) < (n : Int)) = true := by simp; omega
    go_quiet (fail)
    have b3 : Below w2.heap.size w2 (w2.drewN nq) := below_of_drewN rfl
    have H3 := H2.below b3
    have O3 : Only p (p + 1) w (w2.drewN nq) := OnlyC.drewN O2
    clear H2 O2 hcb hci hch b3 t1
    generalize w2.drewN nq = w3 at *
    have hcb := H3.cb
    have hci := H3.ci
    obtain ⟨b, o, rfl, hbp, hby⟩ := H3.by_ (by omega)
    obtain ⟨y, hy⟩ := hby i hlt
    go_upto_region 4 with fail
    go_quiet (fail)
    obtain ⟨z, hz⟩ : ∃ z, z = bits BinOp.and IntKind.i64 (wrap64 (x + wrap64 y)) 255 := ⟨_, rfl⟩
    have hz0 : 0 ≤ z ∧ z ≤ 255 := by rw [hz, and255]; omega
    rw [← hz]
    clear hz
    have b4 : Below w3.heap.size w3 (w3.drewN nq) := below_of_drewN rfl
    have H4 := H3.below b4
    have O4 : Only p (p + 1) w (w3.drewN nq) := OnlyC.drewN O3
    clear H3 O3 hcb hci b4 hy hby hx0
    generalize w3.drewN nq = w4 at *
    have hci := H4.ci
    have hfi := H4.fi
    have wi : ((i : Int) + 1) = ((i + 1 : Nat) : Int) := by omega
    have H5 := H4.setI hlt wi
    have O5 : Only p (p + 1) w (w4.setCell ⟨p, 1, none⟩ (.int .i64 ((i : Int) + 1))) := O4.trans (OnlyC.set _ _ _ _)
    clear wi
    go_wp2
    go_ret
    exact ⟨_, rfl, hz0.1, hz0.2, ⟨_, _, H5⟩, O5⟩
  · have t1 : decide ((i : Int) < (n : Int)) = false := by simp; omega
    go_quiet (fail)
    have b3 : Below w2.heap.size w2 (w2.drewN nq) := below_of_drewN rfl
    have H3 := H2.below b3
    have O3 : Only p (p + 1) w (w2.drewN nq) := OnlyC.drewN O2
    clear H2 O2 hcb hci hch b3 t1
    generalize w2.drewN nq = w3 at *
    go_wp2
    go_ret
    exact ⟨_, rfl, hx0.1, hx0.2, ⟨_, _, H3⟩, O3⟩
end Go.Proofs.Ytefppihanblhmaa
