/- PairsRanking, the program's side. -/
import Derived.Test.YtaanppihgldeaaaGreatDoorW15
import Derived.Test.YtaanppihgldeaaaGreatDoorW09
namespace Go.Proofs.YtaanppihgldeaaaGreatDoor
set_option linter.unusedSimpArgs false
set_option linter.unusedVariables false
set_option linter.unusedVariables false
open Go.RowKit

/-- no kept pair has a number that is left ahead of a -/
def freeB (kept : List (List Int)) (left : List Int) (a : Int) : Bool := !(kept.any fun r => (ix r 1 == a) && has left (ix r 0))
def freeAt (kept : List (List Int)) (left : List Int) : Nat := (idxP (freeB kept left) left 0).toNat
def prk (kept : List (List Int)) : Nat → List Int → List Int
  | 0, _ => []
  | k + 1, left => ix left (freeAt kept left) :: prk kept k (left.eraseIdx (freeAt kept left))
theorem prk_len (kept : List (List Int)) : ∀ k left, (prk kept k left).length = k
  | 0, _ => rfl
  | k + 1, left => by rw [prk, List.length_cons, prk_len kept k]
theorem least_of (rk : Int → Nat) : ∀ l : List Int, l ≠ [] → ∃ a ∈ l, ∀ b ∈ l, rk a ≤ rk b
  | [], h => absurd rfl h
  | x :: l, _ => by
    by_cases e : l = []
    · subst e
      exact ⟨x, by simp, fun b hb => by simp at hb; subst hb; exact Nat.le_refl _⟩
    · obtain ⟨a, ha, hm⟩ := least_of rk l e
      by_cases h : rk x ≤ rk a
      · refine ⟨x, by simp, fun b hb => ?_⟩
        rcases List.mem_cons.1 hb with rfl | hb
        · exact Nat.le_refl _
        · exact Nat.le_trans h (hm b hb)
      · refine ⟨a, List.mem_cons_of_mem _ ha, fun b hb => ?_⟩
        rcases List.mem_cons.1 hb with rfl | hb
        · omega
        · exact hm b hb
theorem free_some {kept : List (List Int)} {left : List Int} (ha : Acyc kept) (h0 : 0 < left.length) : ∃ a ∈ left, freeB kept left a = true := by
  obtain ⟨N, rk, _, h2⟩ := ha
  obtain ⟨a, hm, hl⟩ := least_of rk left (by rintro rfl; simp at h0)
  refine ⟨a, hm, ?_⟩
  unfold freeB
  cases hb : kept.any (fun r => (ix r 1 == a) && has left (ix r 0))
  · rfl
  · obtain ⟨r, hr, h⟩ := List.any_eq_true.1 hb
    rw [Bool.and_eq_true, beq_iff_eq, has_iff] at h
    have h3 := h2 r hr
    have h4 := hl _ h.2
    rw [h.1] at h3
    omega
theorem freeAt_ok {kept : List (List Int)} {left : List Int} (ha : Acyc kept) (h0 : 0 < left.length) : 0 ≤ idxP (freeB kept left) left 0 ∧ freeAt kept left < left.length ∧ idxP (freeB kept left) left 0 = (freeAt kept left : Nat) ∧ freeB kept left (ix left (freeAt kept left)) = true := by
  obtain ⟨a, hm, hf⟩ := free_some ha h0
  have h1 := idxP_ge (freeB kept left) left 0
  rw [List.drop_zero] at h1
  have h2 : left.any (freeB kept left) = true := List.any_eq_true.2 ⟨a, hm, hf⟩
  rw [h2] at h1
  have h3 := of_decide_eq_true h1.symm
  have h4 := idxP_bd (freeB kept left) left 0
  unfold freeAt
  exact ⟨h3, by omega, by omega, h4.elim (fun h => absurd h (by omega)) fun h => h.2.2⟩
noncomputable def pairsRank (m : Int) (vs : List Vt) : List Int := prk (lockedP vs m.toNat) m.toNat (upE m.toNat)
theorem Only.setCell1 (w : World) (g j : Nat) (u : Value) : Only g (g + 1) w (w.setCell ⟨g, j, none⟩ u) :=
  ⟨rfl, rfl, rfl, by simp [World.setCell], fun k _ hk => Below.heap_setCell _ _ _ _ (by simp; omega)⟩
theorem rank11 (L A' : Option Addr) (lc c' g1 g2 : Nat) (left r : List Int) (a : Int) (W : World) (hin : IntsAt W A' r.length r) (h2 : r.length = 2) (hl : IntsAt W L left.length left) (l5 : left.length ≤ 5) (y0 : W.cell? ⟨g1, 0, none⟩ = some (.int .i64 a)) (z0 : W.cell? ⟨g2, 0, none⟩ = some (.slice L left.length lc)) :
    Calls Tryz.prog 122 #[.slice A' r.length c', .pointer (some ⟨g1, 0, none⟩), .pointer (some ⟨g2, 0, none⟩)] W fun e W' => e = .returned (.bool ((ix r 1 == a) && has left (ix r 0))) ∧ Below W.heap.size W W' := by
  obtain ⟨bb, o, rfl, _, hc⟩ := hin.at_ (show 0 < r.length by omega)
  have d0 := hc 0 (by omega)
  have d1 := hc 1 (by omega)
  rw [Nat.add_zero] at d0
  have l0 : (0 : Int) < (r.length : Int) := by omega
  have l1 : (1 : Int) < (r.length : Int) := by omega
  have K1 := Lib.hid (fun n => Calls.quiet_of_same (n := n) ((contains_any L left.length lc left (ix r 0) (W.drewN n) (hl.drewN n) (by omega)).mono fun _ _ ⟨he, hw⟩ => ⟨he, hw.symm⟩))
  clear hc hin h2 hl
  generalize ix r 0 = x at *
  generalize ix r 1 = y at *
  generalize has left x = q at *
  by_cases hya : y = a
  · subst hya
    have e0 : (y == y) = true := by simp
    rw [e0, Bool.true_and]
    go_enter Tryz.func122, Tryz.ntmps122
    go_wp2
    go_quiet ((with_reducible exact K1.out _))
    go_wp2
    go_ret
    exact ⟨rfl, below_of_drewN rfl⟩
  · have e0 : (y == a) = false := by rw [beq_eq_false_iff_ne]; exact hya
    rw [e0, Bool.false_and]
    clear hya K1
    go_enter Tryz.func122, Tryz.ntmps122
    go_wp2
    go_quiet (fail)
    go_wp2
    go_ret
    exact ⟨rfl, below_of_drewN rfl⟩
theorem rank1 (A L : Option Addr) (n c lc g1 g2 : Nat) (kept : List (List Int)) (left : List Int) (a : Int) (W : World) (h : RowsAt W A n kept) (hn : n ≤ 1048576) (h2 : ∀ r ∈ kept, r.length = 2) (hl : IntsAt W L left.length left) (l5 : left.length ≤ 5) (y0 : W.cell? ⟨g1, 0, none⟩ = some (.slice A n c)) (z0 : W.cell? ⟨g2, 0, none⟩ = some (.slice L left.length lc)) :
    Calls Tryz.prog 120 #[.int .i64 a, .pointer (some ⟨g1, 0, none⟩), .pointer (some ⟨g2, 0, none⟩)] W fun e W' => e = .returned (.bool (freeB kept left a)) ∧ Below W.heap.size W W' := by
  have hB := alloc_below W (.cells #[.int .i64 a] 3)
  have x0 := new_cell W (.int .i64 a) 3 rfl
  replace y0 := cell_carry hB y0
  replace z0 := cell_carry hB z0
  replace h := h.below hB
  replace hl := hl.below hB
  generalize hw0 : W.alloc (.cells #[.int .i64 a] 3) = w0 at *
  have K := Lib.hid (containsFuncR_any 122 #[.pointer (some ⟨W.heap.size, 0, none⟩), .pointer (some ⟨g2, 0, none⟩)] (fun r => (ix r 1 == a) && has left (ix r 0)) A n c kept w0 h (by omega) (enters Tryz.func122 (by kernel_rfl) rfl)
    (fun A' c' r W1 hr hin hcc hb => rank11 L A' lc c' _ _ left r a W1 hin (h2 r hr) (hl.below hb) l5 (cell_carry hb x0) (cell_carry hb z0)))
  unfold freeB
  generalize kept.any (fun r => (ix r 1 == a) && has left (ix r 0)) = q at *
  clear h2
  go_enter Tryz.func120, Tryz.ntmps120
  go_wp2_with fail
  (with_reducible refine (K.out).mono ?_)
  rintro e w1 ⟨rfl, b1⟩
  replace hB := hB.trans (b1.mono hB.size)
  clear b1
  go_wp2
  go_ret
  exact ⟨rfl, hB⟩
set_option maxRecDepth 100000 in
set_option maxHeartbeats 2000000 in
theorem implPairsRanking (m : Int) (A : Option Addr) (n c : Nat) (vs : List Vt) (w : World) (h : VotesAt w A n vs) (hn : n ≤ 1048576) (hx : ∀ v ∈ vs, v.r.length ≤ 1048576) (hp : profOk m vs = true) :
    Calls Tryz.prog 69 #[.agg #[.int .i64 m, .slice A n c]] w fun e w' => ∃ A' c', e = .returned (.slice A' (pairsRank m vs).length c') ∧ OwnI w' w.heap.size w'.heap.size (.slice A' (pairsRank m vs).length c') (pairsRank m vs) ∧ Below w.heap.size w w' := by
  obtain rfl := h.len
  have hB := alloc_below w (.cells #[.int .i64 m, .slice A vs.length c] 24)
  obtain ⟨x0, x1⟩ := PBox.new w m A vs.length c 24 rfl
  replace h := h.below hB
  generalize hw0 : w.alloc (.cells #[.int .i64 m, .slice A vs.length c] 24) = w0 at *
  have K := Lib.hid (implProfileOk m A vs.length c vs _ h hn hx)
  rw [hp] at K
  have F := pf_of hp
  obtain ⟨M, rfl⟩ : ∃ M : Nat, m = (M : Int) := ⟨m.toNat, by have := F.m1; omega⟩
  have M5 : M ≤ 5 := by have := F.m5; omega
  have M1 : 1 ≤ M := by have := F.m1; omega
  have KL := Lib.hid (fun W hW => implLockedPairs (M : Int) A vs.length c vs W hW hn hx hp)
  have HT : Hid (pairsRank (M : Int) vs = prk (lockedP vs M) M (upE M)) := rfl
  have pl : (pairsRank (M : Int) vs).length = M := by rw [HT.out, prk_len]
  rw [pl]
  have kl : (lockedP vs M).length ≤ 1048576 := by
    have h1 := (lockZ_sub (zr (sortedR (keyR vs) (pairsOf vs M))) _ (Nat.le_refl _)).length_le
    rw [List.take_length, ← List.length_map (f := Prod.snd), lockZ_snd, zr_snd, zr_len] at h1
    have := pairs_lt vs M5
    have e := sortedR_len (keyR vs) (pairsOf vs M)
    unfold lockedP
    omega
  have AC := Lib.hid (lockedP_acyc vs M)
  have L2 := Lib.hid (fun r (hr : r ∈ lockedP vs M) => (lockedP_mem hr).1)
  rw [Int.toNat_natCast] at KL
  generalize lockedP vs M = kept at *
  clear hx hp F pl
  go_enter Tryz.func69, Tryz.ntmps69
  go_wp2_with fail
  (with_reducible refine (K.out).mono ?_)
  rintro e w1 ⟨rfl, b1⟩
  replace x0 := cell_carry b1 x0
  replace x1 := cell_carry b1 x1
  replace h := h.below b1
  replace hB := hB.trans (b1.mono hB.size)
  clear b1
  clear K hw0
  go_wp2_with fail
  (with_reducible refine (KL.out _ h).mono ?_)
  rintro e w2 ⟨A2, c2, rfl, hk, b2⟩
  replace x0 := cell_carry b2 x0
  replace hB := hB.trans (b2.mono hB.size)
  have b3 := alloc_below w2 (.cells #[.slice A2 kept.length c2] 98)
  have y0 := new_cell w2 (.slice A2 kept.length c2) 98 rfl
  replace hk := hk.below b3
  replace x0 := cell_carry b3 x0
  replace hB := hB.trans (b3.mono hB.size)
  clear b2 b3 KL x1 h
  generalize hw3 : w2.alloc (.cells #[.slice A2 kept.length c2] 98) = w3 at *
  go_wp2_with fail
  (with_reducible refine (indicesE_any M _ (by omega)).mono ?_)
  rintro e w4 ⟨A4, c4, rfl, o4, b4⟩
  obtain ⟨gl, rfl, gl1, gl2⟩ := o4.head M1
  replace o4 := o4.tight
  have z3 := hB.size
  have z4 := b4.size
  clear hw3 x0
  have b5 := alloc_below w4 (.cells #[.slice (some ⟨gl, 0, none⟩) M c4] 27)
  have u0 := new_cell w4 (.slice (some ⟨gl, 0, none⟩) M c4) 27 rfl
  have uf := new_free w4 #[.slice (some ⟨gl, 0, none⟩) M c4] 27 rfl 0
  have o5 := o4.alloc (.cells #[.slice (some ⟨gl, 0, none⟩) M c4] 27)
  have z5 : (w4.alloc (.cells #[.slice (some ⟨gl, 0, none⟩) M c4] 27)).heap.size = w4.heap.size + 1 := by simp
  generalize hw5 : w4.alloc (.cells #[.slice (some ⟨gl, 0, none⟩) M c4] 27) = w5 at *
  clear o4
  go_wp2
  clear hw5
  go_loopw [5, 6] (fun v5 v6 wr => ∃ (left os : List Int) (A5 : Option Addr) (c5 cl : Nat), left.length + os.length = M ∧ Hid (os ++ prk kept left.length left = pairsRank (M : Int) vs) ∧ v5 = .slice A5 os.length c5 ∧ wr.cell? ⟨w4.heap.size, 0, none⟩ = some (.slice (some ⟨gl, 0, none⟩) left.length cl) ∧ wr.frozen? ⟨w4.heap.size, 0, none⟩ = false ∧
    OwnI wr w5.heap.size wr.heap.size (.slice A5 os.length c5) os ∧ OwnI wr gl (gl + 1) (.slice (some ⟨gl, 0, none⟩) left.length cl) left ∧ Below w3.heap.size w3 wr ∧ w5.heap.size ≤ wr.heap.size) (fun v5 _ _ => M - lenOf v5)
  case atStart => exact ⟨upE M, [], none, 0, c4, by simp [upE_len], by show _ = _; rw [upE_len, HT.out]; rfl, rfl, by rw [upE_len]; exact u0, uf, OwnI.nil _ _ _, by rw [upE_len]; exact o5, b4.trans (b5.mono z4), Nat.le_refl _⟩
  case round =>
    clear o5 u0 uf b5 b4
    obtain ⟨left, os, A5, c5, cl, hlen, hT, rfl, hcl, hfl, ho, hl, hb, zr⟩ := hrel
    have l5 : left.length ≤ 5 := by omega
    have l6 : os.length ≤ 5 := by omega
    by_cases hlt : 0 < left.length
    · obtain ⟨p0, p1, p2, _⟩ := freeAt_ok AC.out hlt
      have hkr := hk.below hb
      have y0r := cell_carry hb y0
      have KI := Lib.hid (indexFunc_any 120 #[.pointer (some ⟨w2.heap.size, 0, none⟩), .pointer (some ⟨w4.heap.size, 0, none⟩)] (freeB kept left) (some ⟨gl, 0, none⟩) left.length cl left wr hl.at_ (by omega) (enters Tryz.func120 (by kernel_rfl) rfl)
        (fun x W _ hW => rank1 A2 (some ⟨gl, 0, none⟩) kept.length c2 cl _ _ kept left x W (hkr.below hW) kl L2.out (hl.at_.below hW) l5 (cell_carry hW y0r) (cell_carry hW hcl)))
      rw [p2] at KI
      have HPR : Hid (prk kept ((left.length - 1) + 1) left = ix left (freeAt kept left) :: prk kept (left.length - 1) (left.eraseIdx (freeAt kept left))) := rfl
      generalize freeAt kept left = at_ at *
      have HLEN := Lib.hid hlen
      clear p0 p2 hlen hkr y0r
      go_wp2_with fail
      (with_reducible refine KI.out.mono ?_)
      rintro e w6 ⟨rfl, b6⟩
      have z6 := b6.size
      replace ho := (ho.belowW b6).mono (Nat.le_refl _) z6
      replace hl := hl.belowW b6
      replace hfl := (b6.frozen (p := ⟨w4.heap.size, 0, none⟩) (cell_lt hcl)).trans hfl
      replace hcl := cell_carry b6 hcl
      replace hb := hb.trans (b6.mono hb.size)
      clear b6 KI
      have d1 := hl.cellAt at_ p1
      have i1 : (at_ : Int) < (left.length : Int) := by omega
      have zz := hb.size
      go_wp2_with (at_builtin; refine wpList_append_int _ rfl _ _ rfl (w5.heap.size) _ (os.length) _ _ _ rfl (ho.alloc _) (ix left at_) _ 1 rfl (new_cell _ _ _ rfl) (by omega) (by simp; omega) (by simp; omega) ?_)
      intro A7 c7 w7 o7 on7
      have hl7 := (hl.alloc (.cells #[.int .i64 (ix left at_)] 3)).only on7 (.inl (by omega))
      have hcl7 := on7.cell (old_cell hcl (.cells #[.int .i64 (ix left at_)] 3)) (by show ¬ (_ ≤ w4.heap.size ∧ w4.heap.size < _); omega)
      have hfl7 := on7.frozen (p := ⟨w4.heap.size, 0, none⟩) (old_cell hcl (.cells #[.int .i64 (ix left at_)] 3)) (old_free hcl hfl (.cells #[.int .i64 (ix left at_)] 3)) (by show ¬ (_ ≤ w4.heap.size ∧ w4.heap.size < _); omega)
      have hb7 := (hb.alloc zz (.cells #[.int .i64 (ix left at_)] 3)).trans (on7.toBelow (by omega) (by simp; omega))
      have z7 : w6.heap.size ≤ w7.heap.size := by have := on7.size; simp at this; omega
      clear d1 on7 hl ho hb hcl hfl
      go_wp2_with fail
      (with_reducible refine (delete5_any gl cl left.length at_ left w7 hl7 l5 p1).mono ?_)
      rintro e w8 ⟨rfl, hl8, on8⟩
      have ho8 := (o7.only on8 (.inr (by omega))).mono (Nat.le_refl _) on8.size
      have hcl8 := on8.cell hcl7 (by show ¬ (_ ≤ w4.heap.size ∧ w4.heap.size < _); omega)
      have hfl8 := on8.frozen (p := ⟨w4.heap.size, 0, none⟩) hcl7 hfl7 (by show ¬ (_ ≤ w4.heap.size ∧ w4.heap.size < _); omega)
      have hb8 := hb7.trans (on8.toBelow gl1 (by omega))
      have z8 := on8.size
      have on9 := Only.setCell1 w8 w4.heap.size 0 (.slice (some ⟨gl, 0, none⟩) (left.length - 1) cl)
      have hcl9 := World.cell?_setCell_same w8 ⟨w4.heap.size, 0, none⟩ (.slice (some ⟨gl, 0, none⟩) (left.length - 1) cl) hcl8
      have hfl9 := hfl8
      replace hfl9 : (w8.setCell ⟨w4.heap.size, 0, none⟩ (.slice (some ⟨gl, 0, none⟩) (left.length - 1) cl)).frozen? ⟨w4.heap.size, 0, none⟩ = false := by rw [World.frozen?_setCell]; exact hfl8
      have ho9 := (ho8.only on9 (.inr (by omega)))
      have hl9 := hl8.only on9 (.inl (by omega))
      have hb9 := hb8.trans (on9.toBelow (by omega) (by omega))
      have el : (left.eraseIdx at_).length = left.length - 1 := by rw [List.length_eraseIdx, if_pos p1]
      have ol : (os ++ [ix left at_]).length = os.length + 1 := by simp
      have hT9 : Hid ((os ++ [ix left at_]) ++ prk kept (left.eraseIdx at_).length (left.eraseIdx at_) = pairsRank (M : Int) vs) := by
        show _ = _
        have h9 := hT.out
        rw [show left.length = (left.length - 1) + 1 by omega, HPR.out] at h9
        rw [List.append_assoc, el]
        exact h9
      have HE := Lib.hid el
      have HO := Lib.hid ol
      clear el ol hl7 o7 on8 hb7 hcl7 hfl7 hl8 ho8 hb8 on9
      have z9 : (w8.setCell ⟨w4.heap.size, 0, none⟩ (.slice (some ⟨gl, 0, none⟩) (left.length - 1) cl)).heap.size = w8.heap.size := World.size_setCell _ _ _
      rw [← z9] at ho9
      have HC := Lib.hid hcl9
      have HF := Lib.hid hfl9
      have HO9 := Lib.hid ho9
      have HL9 := Lib.hid hl9
      have HB9 := Lib.hid hb9
      have ZZ := Lib.hid (show w5.heap.size ≤ (w8.setCell ⟨w4.heap.size, 0, none⟩ (.slice (some ⟨gl, 0, none⟩) (left.length - 1) cl)).heap.size by omega)
      clear hcl9 hfl9 ho9 hl9 hb9 z9
      go_wp2
      go_roundw
      case rel =>
        refine ⟨left.eraseIdx at_, os ++ [ix left at_], A7, c7, cl, ?_, hT9, by rw [HO.out], by rw [HE.out]; exact HC.out, HF.out, by rw [HO.out, z5]; exact HO9.out, by rw [HE.out]; exact HL9.out, HB9.out, ZZ.out⟩
        rw [HE.out, HO.out]; have := HLEN.out; omega
      case measure => simp [lenOf]; have := HLEN.out; omega
    · have l0 : left.length = 0 := by omega
      obtain rfl := List.length_eq_zero_iff.1 l0
      have e2 : os = pairsRank (M : Int) vs := by have := hT.out; simpa [prk] using this
      have ol : os.length = M := by simpa using hlen
      have hB5 := hB.trans (hb.mono z3)
      have OL := Lib.hid ol
      have E2 := Lib.hid e2
      have hcl0 : wr.cell? ⟨w4.heap.size, 0, none⟩ = some (.slice (some ⟨gl, 0, none⟩) 0 cl) := hcl
      clear ol hlen l0 e2 hcl
      go_wp2
      go_ret
      rw [← E2.out, ← OL.out]
      exact ⟨_, _, rfl, ho.mono (by omega) (Nat.le_refl _), hB5⟩
end Go.Proofs.YtaanppihgldeaaaGreatDoor
