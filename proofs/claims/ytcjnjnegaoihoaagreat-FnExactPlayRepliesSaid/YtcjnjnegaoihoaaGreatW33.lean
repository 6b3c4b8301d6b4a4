/- The exact laws' own helpers on profiles, further: the struct's copy, comparison, marks. The exact laws' own helpers on profiles, further: the walks of the marks. -/
import Derived.Test.YtcjnjnegaoihoaaGreatW32
import Derived.Test.YtcjnjnegaoihoaaGreatW04
namespace Go.Proofs.YtcjnjnegaoihoaaGreat
set_option linter.unusedSimpArgs false
set_option linter.unusedVariables false
set_option linter.unusedVariables false
open Go.RowKit

set_option maxHeartbeats 800000 in
theorem toProfile_any (m : Int) (A : Option Addr) (n c : Nat) (vs : List Vt) (w : World) (h : VotesAt w A n vs) (hn : n ≤ 1048576) (hx : ∀ v ∈ vs, v.r.length ≤ 1048576) :
    Calls Tryz.prog 7 #[.agg #[.int .i64 m, .slice A n c]] w fun e w' => ∃ A1 c1, e = .returned (.agg #[.int .i64 m, .slice A1 n c1]) ∧ OwnV w' w.heap.size w'.heap.size (.slice A1 n c1) vs ∧ Below w.heap.size w w' := by
  have HX := Lib.hid hx
  clear hx
  have a1 := pair_below w (.int .i64 m) (.slice A n c) 24
  have a2 := a1.trans ((pair_below (w.alloc (.cells #[.int .i64 m, .slice A n c] 24)) (.int .i64 0) (.slice none 0 0) 31).mono (by simp))
  have a3 := a2.trans ((pair_below ((w.alloc (.cells #[.int .i64 m, .slice A n c] 24)).alloc (.cells #[.int .i64 0, .slice none 0 0] 31)) (.int .i64 m) (.slice none 0 0) 31).mono (by simp; omega))
  have p1 := new_pair w (.int .i64 m) (.slice A n c) 24 rfl
  have p2 := new_pair (w.alloc (.cells #[.int .i64 m, .slice A n c] 24)) (.int .i64 0) (.slice none 0 0) 31 (g := w.heap.size + 1) (by simp)
  have p3 := new_pair ((w.alloc (.cells #[.int .i64 m, .slice A n c] 24)).alloc (.cells #[.int .i64 0, .slice none 0 0] 31)) (.int .i64 m) (.slice none 0 0) 31 (g := w.heap.size + 1 + 1) (by simp)
  have y0 := old_cell p2.1 (.cells #[.int .i64 m, .slice none 0 0] 31)
  have y1 := old_cell p2.2 (.cells #[.int .i64 m, .slice none 0 0] 31)
  have fy0 := old_free p2.1 (new_free (w.alloc (.cells #[.int .i64 m, .slice A n c] 24)) _ 31 (by simp) 0) (.cells #[.int .i64 m, .slice none 0 0] 31)
  have fy1 := old_free p2.2 (new_free (w.alloc (.cells #[.int .i64 m, .slice A n c] 24)) _ 31 (by simp) 1) (.cells #[.int .i64 m, .slice none 0 0] 31)
  have fz1 := new_free ((w.alloc (.cells #[.int .i64 m, .slice A n c] 24)).alloc (.cells #[.int .i64 0, .slice none 0 0] 31)) #[.int .i64 m, .slice none 0 0] 31 (g := w.heap.size + 1 + 1) (by simp) 1
  have hz : (((w.alloc (.cells #[.int .i64 m, .slice A n c] 24)).alloc (.cells #[.int .i64 0, .slice none 0 0] 31)).alloc (.cells #[.int .i64 m, .slice none 0 0] 31)).heap.size = w.heap.size + 3 := by simp
  obtain ⟨z0, z1⟩ := p3
  have h3 := h.below a3
  have b3 := a3
  have KT := Lib.hid (And.intro z0 (And.intro z1 (And.intro y0 y1)))
  have KF := Lib.hid (And.intro fy0 (And.intro fy1 fz1))
  clear z0 z1 y0 y1 fy0 fy1 fz1 a3 a1 a2 p2
  go_enter Tryz.func7, Tryz.ntmps7
  go_wp2_with fail
  (with_reducible refine (toVotes_any _ _ _ _ _ h3 hn HX.out).mono ?_)
  rintro e w2 ⟨B1, d1, rfl, o2, b4⟩
  have s2 := b4.size
  have z0 := cell_carry b4 KT.out.1
  have z1 := cell_carry b4 KT.out.2.1
  have y0 := cell_carry b4 KT.out.2.2.1
  have y1 := cell_carry b4 KT.out.2.2.2
  rw [hz] at b4 s2 o2
  have fy0 := (b4.frozen (p := ⟨w.heap.size + 1, 0, none⟩) (by simp)).trans KF.out.1
  have fy1 := (b4.frozen (p := ⟨w.heap.size + 1, 1, none⟩) (by simp)).trans KF.out.2.1
  have fz1 := (b4.frozen (p := ⟨w.heap.size + 1 + 1, 1, none⟩) (by simp)).trans KF.out.2.2
  have b5 := b3.trans (b4.mono (by omega))
  have q0 := (World.cell?_setCell_other w2 ⟨w.heap.size + 1 + 1, 1, none⟩ ⟨w.heap.size + 1 + 1, 0, none⟩ (Value.slice B1 n d1) (by simp)).trans z0
  have q1 := World.cell?_setCell_same _ _ (Value.slice B1 n d1) z1
  have v0 := (World.cell?_setCell_other w2 ⟨w.heap.size + 1 + 1, 1, none⟩ ⟨w.heap.size + 1, 0, none⟩ (Value.slice B1 n d1) (by simp)).trans y0
  have v1 := (World.cell?_setCell_other w2 ⟨w.heap.size + 1 + 1, 1, none⟩ ⟨w.heap.size + 1, 1, none⟩ (Value.slice B1 n d1) (by simp)).trans y1
  have E2 := Lib.hid (pair_set v0 v1 (.int .i64 m) (.slice B1 n d1))
  have B6 := Lib.hid (((b5.setCell (p := ⟨w.heap.size + 1 + 1, 1, none⟩) (by simp; omega) (.slice B1 n d1)).setCell (p := ⟨w.heap.size + 1, 0, none⟩) (by simp) (.int .i64 m)).setCell (p := ⟨w.heap.size + 1, 1, none⟩) (by simp) (.slice B1 n d1))
  have n1 := Only.setCell w2 (w.heap.size + 1 + 1) 1 none (.slice B1 n d1)
  have n2 := Only.setCell (w2.setCell ⟨w.heap.size + 1 + 1, 1, none⟩ (.slice B1 n d1)) (w.heap.size + 1) 0 none (.int .i64 m)
  have n3 := Only.setCell ((w2.setCell ⟨w.heap.size + 1 + 1, 1, none⟩ (.slice B1 n d1)).setCell ⟨w.heap.size + 1, 0, none⟩ (.int .i64 m)) (w.heap.size + 1) 1 none (.slice B1 n d1)
  have O6 := Lib.hid (((o2.only n1 (by omega)).only n2 (by omega)).only n3 (by omega))
  have S6 := Lib.hid (Nat.le_trans (Nat.le_trans n1.size n2.size) n3.size)
  clear v0 v1 n1 n2 n3 b5 b3 o2 hz
  go_wp2
  obtain ⟨e0, e1⟩ := E2.out
  exact bodyPost_ret (v := .agg #[.int .i64 m, .slice B1 n d1]) (by simp [results, Tryz.results7, go_sem, e0, e1]) rfl ⟨B1, d1, rfl, O6.out.mono (by omega) S6.out, B6.out⟩
theorem eqVote_eq (A A' : Option Addr) (n n' c c' : Nat) (xs : List Int) (cnt : Int) (w : World) (h : IntsAt w A n xs) (h' : IntsAt w A' n' xs) (hn : n ≤ 1048576) :
    Calls Tryz.prog 50 #[.agg #[.slice A n c, .int .i64 cnt], .agg #[.slice A' n' c', .int .i64 cnt]] w fun e w' => e = .returned (.bool true) ∧ Below w.heap.size w w' := by
  have a1 := pair_below w (.slice A n c) (.int .i64 cnt) 46
  have a2 := a1.trans ((pair_below (w.alloc (.cells #[.slice A n c, .int .i64 cnt] 46)) (.slice A' n' c') (.int .i64 cnt) 46).mono (by simp))
  have h2 := h.below a2
  have h2' := h'.below a2
  clear a1
  go_enter Tryz.func50, Tryz.ntmps50
  go_wp2_with fail
  (with_reducible refine (eqIntS_eq _ _ _ _ _ _ _ _ h2 h2' (by omega)).mono ?_)
  rintro er w1 ⟨rfl, k, rfl⟩
  go_wp2
  go_ret
  exact ⟨rfl, a2.trans (below_of_drewN rfl)⟩
set_option maxHeartbeats 800000 in
theorem eqVotes_eq (A A' : Option Addr) (n n' c c' : Nat) (vs : List Vt) (w : World) (h : VotesAt w A n vs) (h' : VotesAt w A' n' vs) (hn : n ≤ 1048576) (hx : ∀ v ∈ vs, v.r.length ≤ 1048576) :
    Calls Tryz.prog 28 #[.slice A n c, .slice A' n' c'] w fun e w' => e = .returned (.bool true) ∧ Below w.heap.size w w' := by
  obtain rfl : n' = n := by rw [← h.len, ← h'.len]
  obtain rfl := h.len
  have HX := Lib.hid hx
  clear hx
  go_enter Tryz.func28, Tryz.ntmps28
  go_wp2
  go_loopw [5] (fun i wr => ∃ k : Nat, k ≤ vs.length ∧ i = .int .i64 k ∧ Below w.heap.size w wr) (fun i _ => vs.length - (intOf i).toNat)
  case atStart => exact ⟨0, Nat.zero_le _, rfl, Below.refl _ _⟩
  case round =>
    obtain ⟨k, hk, rfl, hb⟩ := hrel
    by_cases hlt : k < vs.length
    · obtain ⟨b, o, A1, c1, rfl, _, hc1, hc2, hcc, hin⟩ := (h.below hb).at_ hlt
      obtain ⟨b', o', A2, c2, rfl, _, hd1, hd2, hdc, hin'⟩ := (h'.below hb).at_ hlt
      have hxk := HX.out _ (vx_mem hlt)
      generalize vx vs k = v at *
      have KE : Hid (∀ L : Later wr, Calls Tryz.prog 50 #[.agg #[.slice A1 v.r.length c1, .int .i64 v.c], .agg #[.slice A2 v.r.length c2, .int .i64 v.c]] L.W fun e W' => e = .returned (.bool true) ∧ ∃ L' : Later wr, W' = L'.W) :=
        fun L => L.call (eqVote_eq A1 A2 _ _ c1 c2 v.r v.c L.W (hin.below L.h) (hin'.below L.h) hxk)
      have q0 : ∀ L : Later wr, L.W.cell? ⟨b, o + k * 2, none⟩ = some (.slice A1 v.r.length c1) := fun L => L.cell hc1
      have q1 : ∀ L : Later wr, L.W.cell? ⟨b, o + k * 2 + 1, none⟩ = some (.int .i64 v.c) := fun L => L.cell hc2
      have q2 : ∀ L : Later wr, L.W.cell? ⟨b', o' + k * 2, none⟩ = some (.slice A2 v.r.length c2) := fun L => L.cell hd1
      have q3 : ∀ L : Later wr, L.W.cell? ⟨b', o' + k * 2 + 1, none⟩ = some (.int .i64 v.c) := fun L => L.cell hd2
      clear hin hin' hc1 hc2 hd1 hd2
      go_upto_region 6 with fail
      refine wp_region_later (by kernel_rfl) (by kernel_rfl) ?_
      repeat (go_big_quiet_step (with_reducible exact KE.out _))
      (refine wpQuiet_nil ?_; rintro wl ⟨L_, hwl_⟩; have hbl := L_.h; rw [← hwl_] at hbl; clear hwl_ L_)
      clear q0 q1 q2 q3 KE
      go_wp2
      go_roundw
      case rel => exact ⟨k + 1, by omega, by go_num, hb.trans (hbl.mono hb.size)⟩
      case measure => simp [intOf]; omega
    · obtain rfl : k = vs.length := by omega
      go_wp2
      go_ret
      exact ⟨rfl, hb⟩
theorem eqProfile_eq (m : Int) (A A' : Option Addr) (n n' c c' : Nat) (vs : List Vt) (w : World) (h : VotesAt w A n vs) (h' : VotesAt w A' n' vs) (hn : n ≤ 1048576) (hx : ∀ v ∈ vs, v.r.length ≤ 1048576) :
    Calls Tryz.prog 10 #[.agg #[.int .i64 m, .slice A n c], .agg #[.int .i64 m, .slice A' n' c']] w fun e w' => e = .returned (.bool true) ∧ Below w.heap.size w w' := by
  have a1 := pair_below w (.int .i64 m) (.slice A n c) 31
  have a2 := a1.trans ((pair_below (w.alloc (.cells #[.int .i64 m, .slice A n c] 31)) (.int .i64 m) (.slice A' n' c') 31).mono (by simp))
  have K := Lib.hid (eqVotes_eq A A' n n' c c' vs _ (h.below a2) (h'.below a2) hn hx)
  clear a1 hx
  go_enter Tryz.func10, Tryz.ntmps10
  go_wp2_with fail
  (with_reducible refine K.out.mono ?_)
  rintro er w1 ⟨rfl, b1⟩
  go_wp2
  go_ret
  exact ⟨rfl, a2.trans (b1.mono a2.size)⟩
def marksV (k : Int) : List Vt → List Vt
  | [] => []
  | v :: l => ⟨marks k v.r.length, k + v.r.length⟩ :: marksV (k + v.r.length + 1) l
def endV (k : Int) : List Vt → Int
  | [] => k
  | v :: l => endV (k + v.r.length + 1) l
theorem marksV_snoc (k : Int) (l : List Vt) (v : Vt) : marksV k (l ++ [v]) = marksV k l ++ [⟨marks (endV k l) v.r.length, endV k l + v.r.length⟩] := by
  induction l generalizing k with
  | nil => simp [marksV, endV]
  | cons y l ih => simp [marksV, endV, ih]
theorem endV_snoc (k : Int) (l : List Vt) (v : Vt) : endV k (l ++ [v]) = endV k l + v.r.length + 1 := by
  induction l generalizing k with
  | nil => simp [endV]
  | cons y l ih => simp [endV, ih]
theorem marksV_len (k : Int) (l : List Vt) : (marksV k l).length = l.length := by
  induction l generalizing k with
  | nil => rfl
  | cons y l ih => simp [marksV, ih]
theorem vx_marksV (k : Int) (l : List Vt) (j : Nat) (h : j < l.length) : vx (marksV k l) j = ⟨marks (endV k (l.take j)) (vx l j).r.length, endV k (l.take j) + (vx l j).r.length⟩ := by
  induction l generalizing k j with
  | nil => simp at h
  | cons y l ih =>
    cases j with
    | zero => simp [marksV, vx, endV]
    | succ j =>
      have := ih (k + y.r.length + 1) j (by simpa using h)
      simpa [marksV, vx, endV] using this
theorem endV_ge (k : Int) (l : List Vt) : k ≤ endV k l := by
  induction l generalizing k with
  | nil => simp [endV]
  | cons y l ih => have := ih (k + y.r.length + 1); simp only [endV]; omega
theorem endV_le (k : Int) (l : List Vt) (b : Nat) (hx : ∀ v ∈ l, v.r.length ≤ b) : endV k l ≤ k + l.length * (b + 1) := by
  induction l generalizing k with
  | nil => simp [endV]
  | cons y l ih =>
    have h1 := ih (k + y.r.length + 1) (fun v h => hx v (by simp [h]))
    have h2 := hx y (by simp)
    simp only [endV, List.length_cons, Int.natCast_add, Int.add_mul]
    omega
theorem marksV_set (k0 : Int) (vs : List Vt) (k : Nat) (hk : k < vs.length) (b : Int) (hb : b = endV k0 (vs.take k)) :
    setC (setR (marksV k0 (vs.take k) ++ vs.drop k) k (marks b (vx vs k).r.length)) k (b + (vx vs k).r.length) = marksV k0 (vs.take (k + 1)) ++ vs.drop (k + 1) := by
  subst hb
  have e := List.drop_eq_getElem_cons hk
  have hl : (marksV k0 (vs.take k)).length = k := by rw [marksV_len]; simp; omega
  have hl2 : (marksV k0 (vs.take k) ++ vs.drop k).length = vs.length := by rw [List.length_append, hl]; simp; omega
  have hv : ∀ x : Vt, vx ((marksV k0 (vs.take k) ++ vs.drop k).set k x) k = x := fun x => by rw [vx_lt (by rw [List.length_set, hl2]; exact hk), List.getElem_set]; simp
  unfold setC setR
  rw [hv, List.set_set, take_vx hk, marksV_snoc, List.set_append_right _ _ (by omega), hl, Nat.sub_self, e]
  simp only [List.set_cons_zero, List.append_assoc, List.cons_append, List.nil_append]
theorem marksV_bd {k0 : Int} {vs : List Vt} (hn : vs.length ≤ 1048576) (hx : ∀ v ∈ vs, v.r.length ≤ 1048576) (k : Nat) : k0 ≤ endV k0 (vs.take k) ∧ endV k0 (vs.take k) ≤ k0 + 1099512676352 := by
  have h1 := endV_ge k0 (vs.take k)
  have h2 := endV_le k0 (vs.take k) 1048576 (fun v h => hx v (List.mem_of_mem_take h))
  have h3 : (vs.take k).length ≤ 1048576 := by simp; omega
  have h4 : ((vs.take k).length : Int) * (1048576 + 1) ≤ 1048576 * (1048576 + 1) := by omega
  have h5 : (1048576 : Int) * (1048576 + 1) = 1099512676352 := by omega
  have h6 : ((vs.take k).length : Int) * ((1048576 : Nat) + 1) ≤ 1048576 * (1048576 + 1) := h4
  omega
end Go.Proofs.YtcjnjnegaoihoaaGreat
namespace Go.Proofs.YtcjnjnegaoihoaaGreat
set_option linter.unusedSimpArgs false
set_option linter.unusedVariables false
set_option linter.unusedVariables false
open Go.RowKit

set_option maxRecDepth 100000 in
set_option maxHeartbeats 800000 in
theorem markVotes_any (A : Option Addr) (n c lo hi : Nat) (vs : List Vt) (k0 : Int) (w : World) (h : OwnV w lo hi (.slice A n c) vs) (hn : n ≤ 1048576) (hx : ∀ v ∈ vs, v.r.length ≤ 1048576) (h0 : 0 ≤ k0) (h1 : k0 ≤ 288230376151711744) :
    Calls Tryz.prog 29 #[.slice A n c, .int .i64 k0] w fun e w' => e = .returned (.int .i64 (endV k0 vs)) ∧ OwnV w' lo hi (.slice A n c) (marksV k0 vs) ∧ Only lo hi w w' ∧ 0 ≤ endV k0 vs ∧ endV k0 vs ≤ k0 + 1099512676352 := by
  obtain rfl := h.num.1
  have MB := Lib.hid (marksV_bd (k0 := k0) hn hx)
  have HX := Lib.hid hx
  have HE0 := Lib.hid (show 0 ≤ endV k0 vs ∧ endV k0 vs ≤ k0 + 1099512676352 by have := MB.out vs.length; rw [List.take_length] at this; omega)
  clear hx
  go_enter Tryz.func29, Tryz.ntmps29
  go_wp2
  go_loopw [1, 5] (fun kk i wr => ∃ k : Nat, k ≤ vs.length ∧ i = .int .i64 k ∧ kk = .int .i64 (endV k0 (vs.take k)) ∧ OwnV wr lo hi (.slice A vs.length c) (marksV k0 (vs.take k) ++ vs.drop k) ∧ Only lo hi w wr)
    (fun _ i _ => vs.length - (intOf i).toNat)
  case atStart => exact ⟨0, Nat.zero_le _, rfl, by simp [endV], by simpa [marksV] using h, Only.refl _ _ _⟩
  case round =>
    obtain ⟨k, hk, rfl, rfl, hown, hg⟩ := hrel
    by_cases hlt : k < vs.length
    · obtain ⟨g, rfl, hg1, hg2, hg3⟩ := hown.head (by omega)
      obtain ⟨A2, c2, hc2, ho2⟩ := hown.row k hlt
      have hd := List.drop_eq_getElem_cons hlt
      have er : vx (marksV k0 (vs.take k) ++ vs.drop k) k = vx vs k := by
        have hl : (marksV k0 (vs.take k)).length = k := by rw [marksV_len]; simp; omega
        unfold vx
        simp only [List.getD]
        rw [List.getElem?_append_right (by omega), hl]
        simp
      rw [er] at hc2 ho2
      have hxk := HX.out _ (vx_mem hlt)
      have MBk := MB.out k
      obtain ⟨q, hq⟩ : ∃ q, endV k0 (vs.take k) = q := ⟨_, rfl⟩
      have hset := marksV_set k0 vs k hlt q hq.symm
      have hend := endV_snoc k0 (vs.take k) (vx vs k)
      rw [← take_vx hlt, hq] at hend
      rw [hq] at MBk ⊢
      have HE := Lib.hid hend
      have HQ := Lib.hid hq
      have ER := Lib.hid er
      clear hend hq er hd
      generalize hL : marksV k0 (vs.take k) ++ vs.drop k = L at *
      have HL := Lib.hid hL
      clear hL
      generalize hv : vx vs k = v at *
      have HV := Lib.hid hv
      clear hv
      obtain ⟨l2, h2, ho3, hl2, hh2, hlw, hA⟩ := ho2.tight_any
      have KM := Lib.hid (markIntS_any A2 v.r.length c2 l2 h2 v.r q wr ho3 (by omega) (by omega) (by omega))
      go_wp2_with fail
      (with_reducible refine KM.out.mono ?_)
      rintro e w' ⟨rfl, ho4, hon⟩
      have hR := hown.inner_any k hlt hc2 hon ho4 hA
      obtain ⟨cc, fc⟩ := hR.ccell k hlt
      obtain ⟨hst, on2⟩ := hR.counted k hlt (q + v.r.length)
      rw [hset] at hst
      have HO := Lib.hid ((hg.trans (hon.sub hl2 hh2)).trans (on2.mono hg1 (by omega)))
      have HS := Lib.hid hst
      clear hst hR hown ho2 ho3 ho4 hon on2 hset hA hc2 hg KM ER
      go_wp2
      go_roundw
      case rel => exact ⟨k + 1, by omega, by go_num, by rw [HE.out], HS.out, HO.out⟩
      case measure => simp [intOf]; omega
    · obtain rfl : k = vs.length := by omega
      rw [List.take_length, List.drop_length, List.append_nil] at hown
      have HW := Lib.hid hown
      clear hown
      go_wp2
      go_ret
      exact ⟨ret_i (by simp), HW.out, hg, HE0.out⟩
theorem markProfile_any (m : Int) (A : Option Addr) (n c lo hi : Nat) (vs : List Vt) (k0 : Int) (w : World) (h : OwnV w lo hi (.slice A n c) vs) (hn : n ≤ 1048576) (hx : ∀ v ∈ vs, v.r.length ≤ 1048576) (hd1 : lo ≤ hi) (hd2 : hi ≤ w.heap.size) (h0 : 0 ≤ k0) (h1 : k0 ≤ 288230376151711744) :
    Calls Tryz.prog 11 #[.agg #[.int .i64 m, .slice A n c], .int .i64 k0] w fun e w' => e = .returned (.int .i64 (endV k0 vs)) ∧ OwnV w' lo hi (.slice A n c) (marksV k0 vs) ∧ Only lo hi w w' ∧ 0 ≤ endV k0 vs ∧ endV k0 vs ≤ k0 + 1099512676352 := by
  have a1 := pair_below w (.int .i64 m) (.slice A n c) 31
  have p1 := new_pair w (.int .i64 m) (.slice A n c) 31 rfl
  have h2 := h.belowW a1
  have n1 : Only lo hi w (w.alloc (.cells #[.int .i64 m, .slice A n c] 31)) := Only.of_below a1 (Nat.le_refl _)
  have K := Lib.hid (markVotes_any A n c lo hi vs k0 _ h2 hn hx h0 h1)
  clear hx
  go_enter Tryz.func11, Tryz.ntmps11
  go_wp2_with fail
  (with_reducible refine K.out.mono ?_)
  rintro er w1 ⟨rfl, o1, ho, ge, le⟩
  have n2 := n1.trans ho
  clear ho n1 p1 a1 h2
  go_wp2
  go_ret
  exact ⟨rfl, o1, n2, ge, le⟩
set_option maxRecDepth 100000 in
set_option maxHeartbeats 800000 in
theorem heldVotes_any (A : Option Addr) (n c : Nat) (vs : List Vt) (k0 : Int) (w : World) (h : VotesAt w A n (marksV k0 vs)) (hn : n ≤ 1048576) (hx : ∀ v ∈ vs, v.r.length ≤ 1048576) (h0 : 0 ≤ k0) (h1 : k0 ≤ 288230376151711744) :
    Calls Tryz.prog 35 #[.slice A n c, .int .i64 k0] w fun e w' => e = .returned (.int .i64 (endV k0 vs)) ∧ w = w' := by
  obtain rfl : vs.length = n := by rw [← h.len, marksV_len]
  have MB := Lib.hid (marksV_bd (k0 := k0) hn hx)
  have HX := Lib.hid hx
  clear hx
  go_enter Tryz.func35, Tryz.ntmps35
  go_wp2
  go_loop [1, 5] (fun kk i => ∃ k : Nat, k ≤ vs.length ∧ i = .int .i64 k ∧ kk = .int .i64 (endV k0 (vs.take k))) (fun _ i => vs.length - (intOf i).toNat)
  case atStart => exact ⟨0, Nat.zero_le _, rfl, by simp [endV]⟩
  case round =>
    obtain ⟨k, hk, rfl, rfl⟩ := hrel
    by_cases hlt : k < vs.length
    · obtain ⟨b, o, A', c', rfl, hbl, hck, hck2, hcc, hin⟩ := h.at_ hlt
      rw [vx_marksV k0 vs k hlt] at hck hck2 hcc hin
      simp only [marks_len] at hck hcc hin
      have hxk := HX.out _ (vx_mem hlt)
      have MBk := MB.out k
      have hend := endV_snoc k0 (vs.take k) (vx vs k)
      rw [← take_vx hlt] at hend
      have HE := Lib.hid hend
      clear hend
      generalize hq : endV k0 (vs.take k) = q at *
      have HQ := Lib.hid hq
      clear hq
      generalize vx vs k = v at *
      have KM := Lib.hid (heldIntS_any A' v.r.length c' q w hin (by omega) (by omega) (by omega))
      clear hin
      go_wp2_with fail
      (with_reducible refine KM.out.mono ?_)
      rintro e w' ⟨rfl, rfl⟩
      have hnn : 0 ≤ q + v.r.length := by omega
      clear KM
      go_wp2
      go_round
      case rel => exact ⟨k + 1, by omega, by go_num, by rw [HE.out]⟩
      case measure => simp [intOf]; omega
    · obtain rfl : k = vs.length := by omega
      go_wp2
      go_ret
      exact ⟨ret_i (by simp), rfl⟩
theorem heldProfile_any (m : Int) (A : Option Addr) (n c : Nat) (vs : List Vt) (k0 : Int) (w : World) (h : VotesAt w A n (marksV k0 vs)) (hn : n ≤ 1048576) (hx : ∀ v ∈ vs, v.r.length ≤ 1048576) (h0 : 0 ≤ k0) (h1 : k0 ≤ 288230376151711744) :
    Calls Tryz.prog 16 #[.agg #[.int .i64 m, .slice A n c], .int .i64 k0] w fun e w' => e = .returned (.int .i64 (endV k0 vs)) ∧ Below w.heap.size w w' := by
  have a1 := pair_below w (.int .i64 m) (.slice A n c) 31
  have hnn : 0 ≤ endV k0 vs := by have := endV_ge k0 vs; omega
  have K := Lib.hid (heldVotes_any A n c vs k0 _ (h.below a1) hn hx h0 h1)
  clear hx
  go_enter Tryz.func16, Tryz.ntmps16
  go_wp2_with fail
  (with_reducible refine K.out.mono ?_)
  rintro er w1 ⟨rfl, rfl⟩
  go_wp2
  go_ret
  exact ⟨rfl, a1⟩
end Go.Proofs.YtcjnjnegaoihoaaGreat
