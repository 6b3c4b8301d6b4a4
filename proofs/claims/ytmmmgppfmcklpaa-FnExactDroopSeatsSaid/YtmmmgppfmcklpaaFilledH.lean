/- Seats given to the greatest remainders: the program's side, by a stable sort. -/
import Derived.Test.YtmmmgppfmcklpaaSortIW
import Derived.Test.YtmmmgppfmcklpaaPair
namespace Go.Proofs.Ytmmmgppfmcklpaa
set_option linter.unusedVariables false
open Go.RowKit

theorem OwnI.tightH {w : World} {lo hi n g c : Nat} {xs : List Int} (h : OwnI w lo hi (.slice (some ⟨g, 0, none⟩) n c) xs) : OwnI w g (g + 1) (.slice (some ⟨g, 0, none⟩) n c) xs := by
  refine ⟨⟨h.1.1, ?_⟩, fun k e => by simp [Value.ownBlock] at e; omega⟩
  rcases h.1.2 with ⟨e, _⟩ | ⟨g', cap, cur, hv, hgb, hg, r⟩
  · cases e
  · cases hv
    exact .inr ⟨g, c, cur, rfl, Nat.le_refl _, hg, r⟩
theorem lsum_nonneg_bd {xs : List Int} (h : ∀ i, i < xs.length → 0 ≤ ix xs i ∧ ix xs i ≤ 1000000) : ∀ x ∈ xs, 0 ≤ x ∧ x ≤ 1000000000 := by
  intro x hx
  obtain ⟨j, hj, rfl⟩ := List.getElem_of_mem hx
  have := h j hj
  rw [ix_lt hj] at this
  omega
set_option maxRecDepth 100000 in
set_option maxHeartbeats 2000000 in
theorem filledH_any (g c l lo hi : Nat) (ss : List Int) (B : Option Addr) (d : Nat) (rs : List Int) (k : Int) (m : Nat) (w : World) (ho : OwnI w lo hi (.slice (some ⟨g, 0, none⟩) l c) ss) (hr : IntsAt w B l rs) (h2 : ∀ a, B = some a → 0 < l → a.block ≠ g)
    (hl1 : 1 ≤ l) (hl6 : l ≤ 6) (hrb : ∀ i, i < l → 0 ≤ ix rs i ∧ ix rs i ≤ 1000000000) (hsb : ∀ i, i < l → 0 ≤ ix ss i ∧ ix ss i ≤ 1000000) (hm : k - lsum ss = m) (hml : m ≤ l) (hk : 0 ≤ k ∧ k ≤ 1000) :
    Calls Try.prog 21 #[.slice (some ⟨g, 0, none⟩) l c, .slice B l d, .int .i64 k] w fun e w' => e = .returned (.slice (some ⟨g, 0, none⟩) l c) ∧ OwnI w' lo hi (.slice (some ⟨g, 0, none⟩) l c) (giveTo ss (sortS rs l) m) ∧ Only g (g + 1) w w' := by
  obtain ⟨hsl, hgw, hgl, hgh⟩ := ho.num
  have HRB := Lib.hid hrb
  have HSB := Lib.hid hsb
  have hsum := lsum_bd ss 1000000 (fun x hx => by obtain ⟨j, hj, rfl⟩ := List.getElem_of_mem hx; have := hsb j (by omega); rw [ix_lt hj] at this; omega)
  have HSX := Lib.hid (lsum_nonneg_bd (xs := ss) (fun i hi => hsb i (by omega)))
  have hbx := (Below.refl w.heap.size w).alloc (Nat.le_refl _) (.cells #[.slice B l d] 22)
  have c0 := new_cell w (.slice B l d) 22 rfl
  have hr0 := hr.below hbx
  have ho0 := ho.belowW hbx
  have hz0 : (w.alloc (.cells #[.slice B l d] 22)).heap.size = w.heap.size + 1 := World.size_alloc _ _
  have H2 := Lib.hid h2
  obtain ⟨T, hT0⟩ : ∃ T, sortS rs l = T := ⟨_, rfl⟩
  have HT := Lib.hid (fun i (hi : i < l) => sortS_at (rs := rs) hi)
  have hTl := Nat.le_of_eq (sortS_len rs l).symm
  rw [hT0] at HT hTl ⊢
  have HT0 := Lib.hid hT0
  clear hrb hsb h2 ho hr hT0
  go_enter Try.func21, Try.ntmps21
  go_wp2_with fail
  generalize w.alloc (.cells #[.slice B l d] 22) = w0 at *
  (with_reducible refine (indicesE_any l _ (by omega)).mono ?_)
  rintro e w1 ⟨A1, c1, rfl, oi, hb1⟩
  obtain ⟨g1, rfl, hg1l, hg1h⟩ := oi.head (by omega)
  have K1 : RestAt w1 w.heap.size B l d rs := ⟨cell_carry hb1 c0, hr0.below hb1⟩
  have ho1 := ho0.belowW hb1
  have s1 := hb1.size
  have hbb := hbx.trans (hb1.mono (by omega))
  have hne : ∀ a, B = some a → 0 < l → a.block ≠ g1 := fun a e hl => by
    obtain ⟨b, o, e', hlt, _⟩ := hr0.at_ hl
    rw [e] at e'
    cases e'
    show b ≠ g1
    omega
  have oi2 := oi.tightH
  have HNE := Lib.hid hne
  clear hne c0 hr0 ho0 hb1 hbx
  go_wp2_with fail
  (with_reducible refine (sortStable_any g1 c1 l g1 (g1 + 1) _ oi2 K1 (by omega) HNE.out hl1 hl6 (Nat.le_refl _) HRB.out).mono ?_)
  rintro e w2 ⟨⟨v, rfl⟩, oi3, hon⟩
  rw [HT0.out] at oi3
  have ho2 := ho1.tightH.only hon (by omega)
  have hb2 := hbb.trans (hon.toBelow (B := w.heap.size) (by omega) (by omega))
  have s2 := hb2.size
  clear ho1 oi oi2 K1 hon hbb
  obtain ⟨_, hc1, _⟩ := oi3.num
  have hcc := oi3.ints.2.2.1
  go_wp2_with fail
  (with_reducible refine (sumOf_any _ _ _ _ _ ho2.at_ (by omega) HSX.out).mono ?_)
  rintro e w3 ⟨rfl, rfl⟩
  have hw : IntKind.i64.wrap (k - lsum ss) = (m : Int) := by rw [IntWalk.i64_in _ (by omega)]; exact hm
  have m0 : (0 : Int) ≤ (m : Int) := by omega
  have m1 : (m : Int) ≤ (c1 : Int) := by omega
  rw [hm] at hw
  go_wp2
  have HGB := Lib.hid (fun t (ht : t ≤ m) => giveTo_bd (seats := ss) (T := T) (m := 1000000) (t := t) (fun i hi => HSB.out i (by omega)) (fun i hi => by have := HT.out i (by omega); omega))
  have hslE := Nat.le_of_eq hsl
  have hslE2 := Nat.le_of_eq hsl.symm
  clear hsl hm hw hsum
  go_loopw [9, 23] (fun _ t_ wr => ∃ t : Nat, t ≤ m ∧ t_ = .int .i64 t ∧ OwnI wr g (g + 1) (.slice (some ⟨g, 0, none⟩) l c) (giveTo ss T t) ∧ OwnI wr g1 (g1 + 1) (.slice (some ⟨g1, 0, none⟩) l c1) T ∧ Only g (g + 1) w2 wr) (fun _ t_ _ => m - (intOf t_).toNat)
  case atStart => exact ⟨0, Nat.zero_le _, rfl, ho2, oi3, Only.refl _ _ _⟩
  case round =>
    obtain ⟨t, ht, rfl, hs, hT, hon⟩ := hrel
    by_cases hlt : t < m
    · have ct := hT.cellAt t (by omega)
      obtain ⟨x0, x1⟩ := HT.out t (by omega)
      obtain ⟨p, hp⟩ : ∃ p : Nat, ix T t = (p : Int) := ⟨(ix T t).toNat, by omega⟩
      have hpl : p < l := by omega
      have HNX : Hid (giveTo ss T (t + 1) = (giveTo ss T t).set p (ix (giveTo ss T t) p + 1)) := by show giveTo ss T (t + 1) = _; rw [giveTo, hp]; rfl
      have bp := HGB.out t ht p (by omega)
      have cp := hs.cellAt p hpl
      have fp := hs.frozenAt p
      rw [hp] at ct
      obtain ⟨o1, n1'⟩ := hs.stored p (ix (giveTo ss T t) p + 1)
      rw [← HNX.out] at o1
      have O1 := Lib.hid o1
      have O2 := Lib.hid (hT.only n1' (by omega))
      have ON := Lib.hid (hon.trans n1')
      have p0 : (0 : Int) ≤ (p : Int) := by omega
      have p1 : (p : Int) < (l : Int) := by omega
      clear o1 n1' hs hT hon hp x0 x1
      generalize ix (giveTo ss T t) p = cc at *
      go_wp2
      go_roundw
      case rel => exact ⟨t + 1, by omega, by go_num, O1.out, O2.out, ON.out⟩
      case measure => simp [intOf]; omega
    · obtain rfl : t = m := by omega
      have hfin : Only g (g + 1) w wr := (Only.of_below (B := w.heap.size) hb2 (Nat.le_refl _)).trans hon
      go_wp2
      go_ret
      exact ⟨rfl, hs.mono hgl hgh, hfin⟩
end Go.Proofs.Ytmmmgppfmcklpaa
