/- A school that comes back: reading it, marking it. -/
import Derived.Test.YtmakbndlobaaaaaSplitS
import Derived.Test.YtmakbndlobaaaaaLawSchool
namespace Go.Proofs.Ytmakbndlobaaaaa
set_option linter.unusedVariables false
open Go.RowKit

section
variable {w w' : World} {lo hi : Nat} {A : Option Addr} {n c : Nat} {sss : List (List Int)} {B : Option Addr} {m d : Nat} {ccc : List (List Int)} {C : Option Addr} {l e : Nat} {ps : List Int}
theorem OwnSch.belowW (h : OwnSch w lo hi A n c sss B m d ccc C l e ps) (hb : Below w.heap.size w w') : OwnSch w' lo hi A n c sss B m d ccc C l e ps := by
  obtain ⟨h1, h2, h3, us, vs, h4, h5, h6⟩ := h
  exact ⟨h1, h2, h3, us, vs, h4, h5, h6.belowW hb⟩
theorem OwnSch.only {l2 h2 : Nat} (h : OwnSch w lo hi A n c sss B m d ccc C l e ps) (ho : Only l2 h2 w w') (hd : hi ≤ l2 ∨ h2 ≤ lo) : OwnSch w' lo hi A n c sss B m d ccc C l e ps := by
  obtain ⟨h1, h2, h3, us, vs, h4, h5, h6⟩ := h
  exact ⟨h1, h2, h3, us, vs, h4, h5, h6.only ho hd⟩
theorem OwnSch.stu (h : OwnSch w lo hi A n c sss B m d ccc C l e ps) : RowsAt w A n sss := by
  obtain ⟨rfl, h2, h3, us, vs, h4, h5, h6⟩ := h
  have h7 : OwnL w lo hi (pR (.slice A sss.length c) us :: rowsL us sss) :=
    h6.sub (List.Sublist.cons_cons _ (List.Sublist.cons _ (List.Sublist.cons _ (List.sublist_append_left _ _))))
  exact (ownR_of_pieces (A := A) (n := sss.length) (c := c) h4 h7).at_
theorem OwnSch.col (h : OwnSch w lo hi A n c sss B m d ccc C l e ps) : RowsAt w B m ccc := by
  obtain ⟨h1, rfl, h3, us, vs, h4, h5, h6⟩ := h
  have h7 : OwnL w lo hi (pR (.slice B ccc.length d) vs :: rowsL vs ccc) :=
    h6.sub (List.Sublist.cons _ (List.Sublist.cons_cons _ (List.Sublist.cons _ (List.sublist_append_right _ _))))
  exact (ownR_of_pieces (A := B) (n := ccc.length) (c := d) h5 h7).at_
theorem OwnSch.pla (h : OwnSch w lo hi A n c sss B m d ccc C l e ps) : IntsAt w C l ps := by
  obtain ⟨h1, h2, rfl, us, vs, h4, h5, h6⟩ := h
  have h7 := h6.1 _ (show pI (.slice C ps.length e) ps ∈ _ from by simp)
  exact (pI_own h7.1 h7.2).at_
end
set_option maxHeartbeats 800000 in
theorem markIntSSL_any (A : Option Addr) (c lo hi : Nat) (us : List Value) (xss : List (List Int)) (P0 P1 : List Pc) (k0 : Int) (w : World) (hm : pR (.slice A xss.length c) us ∈ P0) (hl : us.length = xss.length) (h : OwnL w lo hi (P0 ++ (rowsL us xss ++ P1))) (hs : hi ≤ w.heap.size) (hn : xss.length ≤ 1048576) (hx : ∀ xs ∈ xss, xs.length ≤ 1048576) (h0 : 0 ≤ k0) (h1 : k0 ≤ 576460752303423488) :
    Calls Try.prog 38 #[.slice A xss.length c, .int .i64 k0] w fun e w' => e = .returned (.int .i64 (endR k0 xss)) ∧ OwnL w' lo hi (P0 ++ (rowsL us (marksR k0 xss) ++ P1)) ∧ Only lo hi w w' ∧ 0 ≤ endR k0 xss ∧ endR k0 xss ≤ k0 + 1099511627776 := by
  have hE : 0 ≤ endR k0 xss ∧ endR k0 xss ≤ k0 + 1099511627776 := by
    have h3 := endR_ge k0 xss
    have h4 := endR_le k0 xss 1048576 hx
    have h5 : (xss.length : Int) * 1048576 ≤ 1048576 * 1048576 := by omega
    exact ⟨by omega, by omega⟩
  have HE0 := Lib.hid hE
  have HM := Lib.hid hm
  have HL := Lib.hid hl
  have HX := Lib.hid hx
  clear hE hm hl hx
  go_enter Try.func38, Try.ntmps38
  go_wp2
  go_loopw [1, 5] (fun kk i wr => ∃ k : Nat, k ≤ xss.length ∧ i = .int .i64 k ∧ kk = .int .i64 (endR k0 (xss.take k)) ∧ OwnL wr lo hi (P0 ++ (rowsL us (marksR k0 (xss.take k) ++ xss.drop k) ++ P1)) ∧ Only lo hi w wr)
    (fun _ i _ => xss.length - (intOf i).toNat)
  case atStart => exact ⟨0, Nat.zero_le _, rfl, by simp [endR], by simpa [marksR] using h, Only.refl _ _ _⟩
  case round =>
    obtain ⟨k, hk, rfl, rfl, hown, hg⟩ := hrel
    by_cases hlt : k < xss.length
    · have hpr := hown.1 _ (List.mem_append_left _ HM.out)
      obtain ⟨u, huk⟩ : ∃ u, us[k]? = some u := ⟨_, List.getElem?_eq_getElem (by rw [HL.out]; exact hlt)⟩
      have hll : us.length = (marksR k0 (xss.take k) ++ xss.drop k).length := by rw [HL.out, List.length_append, marksR_len]; simp; omega
      have er : rx (marksR k0 (xss.take k) ++ xss.drop k) k = rx xss k := by
        unfold rx
        have hl : (marksR k0 (xss.take k)).length = k := by rw [marksR_len]; simp; omega
        simp only [List.getD]
        rw [List.getElem?_append_right (by omega), hl]
        simp
      have hat := rowsL_at hll huk
      rw [er] at hat
      have hidx : (P0 ++ (rowsL us (marksR k0 (xss.take k) ++ xss.drop k) ++ P1))[P0.length + k]? = some (pI u (rx xss k)) := by
        rw [List.getElem?_append_right (by omega), Nat.add_sub_cancel_left, List.getElem?_append_left (by rw [rowsL_len hll, ← hll, HL.out]; exact hlt)]
        exact hat
      have hou := pI_own (hown.at_ hidx) (hown.inB hidx)
      obtain ⟨A2, c2, eu, _⟩ := hou.len
      subst eu
      have hA0 : ∃ g, A = some ⟨g, 0, none⟩ ∧ wr.cell? ⟨g, k, none⟩ = some (.slice A2 (rx xss k).length c2) := by
        rcases hpr.1.2 with ⟨e1, e2⟩ | ⟨g, cap, cur, hv, _⟩
        · change us.length = 0 at e2; rw [HL.out] at e2; omega
        · change Value.slice A xss.length c = .slice (some ⟨g, 0, none⟩) us.length cap at hv
          have hv2 : A = some ⟨g, 0, none⟩ := by injection hv
          subst hv2
          refine ⟨g, rfl, ?_⟩
          have ho : wr.ownsRow 0 23 1 (.slice (some ⟨g, 0, none⟩) us.length c) us.length us := by have := hpr.1; unfold Pc.ok pR at this; rw [← HL.out] at this; exact this
          rw [World.ownsRow.cellAt ho k (by rw [HL.out]; omega)]
          exact huk
      obtain ⟨g, rfl, hc2⟩ := hA0
      have hxk := HX.out _ (rx_mem hlt)
      have b1 := endR_ge k0 (xss.take k)
      have b2 : endR k0 (xss.take k) ≤ k0 + 1048576 * 1048576 := by
        have := endR_le k0 (xss.take k) 1048576 (fun xs h => HX.out xs (List.mem_of_mem_take h))
        have h3 : (xss.take k).length ≤ 1048576 := by simp; omega
        have h4 : ((xss.take k).length : Int) * 1048576 ≤ 1048576 * 1048576 := by omega
        omega
      have hset := marksR_set k0 xss k hlt
      have hend := endR_snoc k0 (xss.take k) (rx xss k)
      rw [← take_rx hlt] at hend
      have HE := Lib.hid hend
      clear hend
      generalize hq : endR k0 (xss.take k) = q at *
      have HQ := Lib.hid hq
      have HUK := Lib.hid huk
      have HLL := Lib.hid hll
      have HID := Lib.hid hidx
      clear hq huk hll hat er
      obtain ⟨l2, h2, ho3, hl2, hh2, hlw, hA⟩ := hou.tight_any
      have hsz := hg.size
      go_wp2_with fail
      refine (markIntS_any A2 (rx xss k).length c2 l2 h2 (rx xss k) q wr ho3 (by omega) (by omega) (by omega)).mono ?_
      rintro e w' ⟨rfl, ho4, hon⟩
      have hR : OwnL w' lo hi (P0 ++ (rowsL us (marksR k0 (xss.take (k + 1)) ++ xss.drop (k + 1)) ++ P1)) := by
        have h5 := hown.upd (hi' := hi) (p' := pI (.slice A2 (rx xss k).length c2) (marks q (rx xss k).length)) HID.out (fun j hj hne => hon.block j hj (fun e5 => by
            rcases hA with ⟨_, e6⟩ | ⟨b, rfl, rfl, rfl⟩
            · omega
            · exact hne (show some l2 = some j from by congr 1; omega))) (pI_of ho4).1 (Nat.le_refl _) (by omega) (.inl rfl)
        rw [List.set_append_right _ _ (by omega), Nat.add_sub_cancel_left, List.set_append_left _ _ (by rw [rowsL_len HLL.out, ← HLL.out, HL.out]; exact hlt), rowsL_set _ _ HLL.out, hset] at h5
        rw [show us.set k (.slice A2 (rx xss k).length c2) = us from by
          obtain ⟨hl3, e3⟩ := List.getElem?_eq_some_iff.1 HUK.out
          rw [← e3, List.set_getElem_self]] at h5
        exact h5
      have hO := hg.trans (hon.sub hl2 hh2)
      have HR := Lib.hid hR
      clear hR hown hc2 hou ho3 ho4 hA hset hon HID hidx hpr
      go_wp2
      go_roundw
      case rel => exact ⟨k + 1, by omega, by go_num, by rw [HE.out], HR.out, hO⟩
      case measure => simp [intOf]; omega
    · obtain rfl : k = xss.length := by omega
      rw [List.take_length, List.drop_length, List.append_nil] at hown
      have HW := Lib.hid hown
      clear hown
      go_wp2
      go_ret
      exact ⟨ret_i (by simp), HW.out, hg, HE0.out⟩
theorem marksR_rows {k0 : Int} {xss : List (List Int)} {b : Nat} (h : ∀ xs ∈ xss, xs.length ≤ b) : ∀ xs ∈ marksR k0 xss, xs.length ≤ b := fun xs hxs => by
  obtain ⟨j, hj, rfl⟩ := List.getElem_of_mem hxs
  rw [marksR_len] at hj
  have e := rx_marksR k0 xss j hj
  rw [rx_lt (by rw [marksR_len]; exact hj)] at e
  rw [e, marks_len]
  exact h _ (rx_mem hj)
set_option maxHeartbeats 800000 in
theorem markSchoolS_any (A : Option Addr) (n c lo hi : Nat) (xss : List (List Int)) (B : Option Addr) (m d : Nat) (yss : List (List Int)) (C : Option Addr) (l e : Nat) (zs : List Int) (k0 : Int) (w : World) (h : OwnSch w lo hi A n c xss B m d yss C l e zs) (hn : n ≤ 1048576) (hx : ∀ xs ∈ xss, xs.length ≤ 1048576)
    (hm : m ≤ 1048576) (hy : ∀ xs ∈ yss, xs.length ≤ 1048576) (hl : l ≤ 1048576) (hd3 : lo ≤ hi) (hd4 : hi ≤ w.heap.size) (h0 : 0 ≤ k0) (h1 : k0 ≤ 288230376151711744) :
    Calls Try.prog 19 #[.agg #[.slice A n c, .slice B m d, .slice C l e], .int .i64 k0] w fun r w' => r = .returned (.int .i64 (endR (endR k0 xss) yss + l)) ∧
      OwnSch w' lo hi A n c (marksR k0 xss) B m d (marksR (endR k0 xss) yss) C l e (marks (endR (endR k0 xss) yss) l) ∧ Only lo hi w w' ∧ 0 ≤ endR (endR k0 xss) yss + l ∧ endR (endR k0 xss) yss + l ≤ k0 + 3298534883328 := by
  obtain ⟨rfl, rfl, rfl, us, vs, hu, hv, hO⟩ := h
  have HX := Lib.hid hx
  have HY := Lib.hid hy
  have HU := Lib.hid hu
  have HV := Lib.hid hv
  clear hx hy hu hv
  have a1 := triple_below w (.slice A xss.length c) (.slice B yss.length d) (.slice C zs.length e) 28
  have p1 := new_triple w (.slice A xss.length c) (.slice B yss.length d) (.slice C zs.length e) 28 rfl
  have h2 := hO.belowW a1
  have n1 : Only lo hi w (w.alloc (.cells #[.slice A xss.length c, .slice B yss.length d, .slice C zs.length e] 28)) := Only.of_below a1 (Nat.le_refl _)
  have hz1 := World.size_alloc w (.cells #[.slice A xss.length c, .slice B yss.length d, .slice C zs.length e] 28)
  have HO2 := Lib.hid (show OwnL _ lo hi ([pR (.slice A xss.length c) us, pR (.slice B yss.length d) vs, pI (.slice C zs.length e) zs] ++ (rowsL us xss ++ rowsL vs yss)) from h2)
  clear hO h2
  go_enter Try.func19, Try.ntmps19
  go_wp2_with fail
  (with_reducible refine (markIntSSL_any A c lo hi us xss [pR (.slice A xss.length c) us, pR (.slice B yss.length d) vs, pI (.slice C zs.length e) zs] (rowsL vs yss) k0 _ (by simp) HU.out HO2.out (by omega) hn HX.out h0 (by omega)).mono ?_)
  rintro er w1 ⟨rfl, o1, ho, ge, le⟩
  have x1 := ho.cell p1.2.1 (by simp; omega)
  have x2 := ho.cell p1.2.2 (by simp; omega)
  have n2 := n1.trans ho
  have hz2 := ho.size
  have HO3 := Lib.hid (show OwnL w1 lo hi (([pR (.slice A xss.length c) us, pR (.slice B yss.length d) vs, pI (.slice C zs.length e) zs] ++ rowsL us (marksR k0 xss)) ++ (rowsL vs yss ++ [])) from by simpa using o1)
  clear ho n1 p1 a1 HO2 o1
  go_wp2_with fail
  (with_reducible refine (markIntSSL_any B d lo hi vs yss ([pR (.slice A xss.length c) us, pR (.slice B yss.length d) vs, pI (.slice C zs.length e) zs] ++ rowsL us (marksR k0 xss)) [] _ _ (by simp) HV.out HO3.out (by omega) hm HY.out ge (by omega)).mono ?_)
  rintro er w2 ⟨rfl, o2, ho, ge2, le2⟩
  have x2' := ho.cell x2 (by simp; omega)
  have n3 := n2.trans ho
  have hz3 := ho.size
  have o3 : OwnL w2 lo hi (pR (.slice A xss.length c) us :: pR (.slice B yss.length d) vs :: pI (.slice C zs.length e) zs :: (rowsL us (marksR k0 xss) ++ rowsL vs (marksR (endR k0 xss) yss))) := by simpa using o2
  have q4 := pI_own (o3.at_ (i := 2) rfl) (o3.inB (i := 2) rfl)
  have HO4 := Lib.hid o3
  clear ho n2 o2 x1 x2 o3 HO3
  obtain ⟨l2, h2, q5, hl2, hh2, hlw, hA⟩ := q4.tight_any
  go_wp2_with fail
  (with_reducible refine (markIntS_any _ _ _ l2 h2 _ _ _ q5 (by omega) ge2 (by omega)).mono ?_)
  rintro er w3 ⟨rfl, o4, ho⟩
  have n4 := n3.trans (ho.sub hl2 hh2)
  have HO5 : Hid (OwnL w3 lo hi (pR (.slice A xss.length c) us :: pR (.slice B yss.length d) vs :: pI (.slice C zs.length e) (marks (endR (endR k0 xss) yss) zs.length) :: (rowsL us (marksR k0 xss) ++ rowsL vs (marksR (endR k0 xss) yss)))) :=
    HO4.out.upd (i := 2) (hi' := hi) (p' := pI (.slice C zs.length e) (marks (endR (endR k0 xss) yss) zs.length)) rfl (fun j hj hne => ho.block j hj (fun e5 => by
      rcases hA with ⟨_, e6⟩ | ⟨b, rfl, rfl, rfl⟩
      · omega
      · exact hne (show some l2 = some j from by congr 1; omega))) (pI_of o4).1 (Nat.le_refl _) (by omega) (.inl rfl)
  clear ho n3 o4 q4 q5 hA HO4
  go_wp2
  go_ret
  exact ⟨rfl, ⟨marksR_len _ _, marksR_len _ _, marks_len _ _, us, vs, by rw [marksR_len]; exact HU.out, by rw [marksR_len]; exact HV.out, HO5.out⟩, n4, by omega, by omega⟩
set_option maxHeartbeats 400000 in
theorem heldSchool_any (A : Option Addr) (n c : Nat) (xss : List (List Int)) (B : Option Addr) (m d : Nat) (yss : List (List Int)) (C : Option Addr) (l e k1 : Nat) (k0 : Int) (w : World) (h : RowsAt w A n (marksR k0 xss)) (hn : n ≤ 1048576) (hx : ∀ xs ∈ xss, xs.length ≤ 1048576)
    (g : RowsAt w B m (marksR (endR k0 xss) yss)) (hm : m ≤ 1048576) (hy : ∀ xs ∈ yss, xs.length ≤ 1048576) (q : IntsAt w C l (marks (endR (endR k0 xss) yss) k1)) (hl : l ≤ 1048576) (h0 : 0 ≤ k0) (h1 : k0 ≤ 288230376151711744) :
    Calls Try.prog 26 #[.agg #[.slice A n c, .slice B m d, .slice C l e], .int .i64 k0] w fun r w' => r = .returned (.int .i64 (endR (endR k0 xss) yss + k1)) ∧ Below w.heap.size w w' := by
  obtain rfl : k1 = l := by have := q.len; rw [marks_len] at this; exact this
  have HX := Lib.hid hx
  have HY := Lib.hid hy
  have e1 := endR_ge k0 xss
  have e2 := endR_ge (endR k0 xss) yss
  have l1 : xss.length ≤ 1048576 := by have := h.len; rw [marksR_len] at this; omega
  have l2 : yss.length ≤ 1048576 := by have := g.len; rw [marksR_len] at this; omega
  have e3 := endR_le k0 xss 1048576 hx
  have e4 : (xss.length : Int) * ((1048576 : Nat) : Int) ≤ 1048576 * 1048576 := by omega
  have e5 := endR_le (endR k0 xss) yss 1048576 hy
  have e6 : (yss.length : Int) * ((1048576 : Nat) : Int) ≤ 1048576 * 1048576 := by omega
  clear hx hy
  have a1 := triple_below w (.slice A n c) (.slice B m d) (.slice C k1 e) 28
  have h2 := h.below a1
  have g2 := g.below a1
  have q2 := q.below a1
  have p1 := new_triple w (.slice A n c) (.slice B m d) (.slice C k1 e) 28 rfl
  have x1 := p1.2.1
  have x2 := p1.2.2
  clear p1
  go_enter Try.func26, Try.ntmps26
  go_wp2_with fail
  (with_reducible refine (heldIntSS_any _ _ _ _ _ _ h2 hn HX.out h0 (by omega)).mono ?_)
  rintro er w1 ⟨rfl, rfl⟩
  go_wp2_with fail
  (with_reducible refine (heldIntSS_any _ _ _ _ _ _ g2 hm HY.out (by omega) (by omega)).mono ?_)
  rintro er w1 ⟨rfl, rfl⟩
  go_wp2_with fail
  (with_reducible refine (heldIntS_any _ _ _ _ _ q2 (by omega) (by omega) (by omega)).mono ?_)
  rintro er w1 ⟨rfl, rfl⟩
  go_wp2
  go_ret
  exact ⟨rfl, a1⟩
theorem split_bd {S C : List (List Int)} {P : List Int} (hx : ∀ xs ∈ S, xs.length ≤ 1048576) (hy : ∀ xs ∈ C, xs.length ≤ 1048576) : (splitS S C P).length ≤ 1048576 ∧ (∀ xs ∈ splitS S C P, xs.length ≤ 1048576) ∧ (splitC S C P).length ≤ 1048576 ∧ (∀ xs ∈ splitC S C P, xs.length ≤ 1048576) ∧ (splitP S C P).length ≤ 1048576 := by
  cases h : splitB S C P
  · obtain ⟨e1, e2, e3⟩ := split_no h
    rw [e1, e2, e3]
    simp
  · obtain ⟨e1, e2, e3⟩ := split_yes h
    have F := split_facts h
    have h3 := F.o3
    have hn := F.n5
    rw [e1, e2, e3]
    refine ⟨by unfold spS; rw [List.length_map]; omega, fun xs hxs => ?_, by rw [spC_len]; omega, fun xs hxs => ?_, by rw [List.length_replicate]; omega⟩
    · unfold spS at hxs
      obtain ⟨l, hl, rfl⟩ := List.mem_map.1 hxs
      obtain ⟨i, hi, rfl⟩ := List.getElem_of_mem hl
      have h5 := F.sl i hi
      have h6 := F.sb i hi
      rw [rx_lt hi] at h5 h6
      have := spL_len (P := P) (c := C.length) h5 h6 F.o3
      omega
    · have hm : ∀ k, k ≤ C.length → ∀ xs ∈ spC C P k, xs.length ≤ 5 := by
        intro k
        induction k with
        | zero => intro _ xs h; simp [spC] at h
        | succ k ih =>
          intro hk xs h
          rcases List.mem_append.1 h with h | h
          · exact ih (by omega) xs h
          · rw [List.eq_of_mem_replicate h]; exact F.cl k (by omega)
      have := hm C.length (Nat.le_refl _) xs hxs
      omega
theorem implSplitSchoolC (A : Option Addr) (n c : Nat) (sss : List (List Int)) (B : Option Addr) (m d : Nat) (ccc : List (List Int)) (C : Option Addr) (l e : Nat) (ps : List Int) (w : World) (h : RowsAt w A n sss) (hn : n ≤ 1048576) (hx : ∀ xs ∈ sss, xs.length ≤ 1048576)
    (g : RowsAt w B m ccc) (hm : m ≤ 1048576) (hy : ∀ xs ∈ ccc, xs.length ≤ 1048576) (q : IntsAt w C l ps) (hl : l ≤ 1048576) :
    Calls Try.prog 25 #[.agg #[.slice A n c, .slice B m d, .slice C l e]] w fun er w' => ∃ A1 c1 B1 d1 C1 e1, er = .returned (.tuple #[.agg #[.slice A1 (splitS sss ccc ps).length c1, .slice B1 (splitC sss ccc ps).length d1, .slice C1 (splitP sss ccc ps).length e1], .bool (splitB sss ccc ps)]) ∧
      OwnSch w' w.heap.size w'.heap.size A1 (splitS sss ccc ps).length c1 (splitS sss ccc ps) B1 (splitC sss ccc ps).length d1 (splitC sss ccc ps) C1 (splitP sss ccc ps).length e1 (splitP sss ccc ps) ∧
      (splitS sss ccc ps).length ≤ 1048576 ∧ (∀ xs ∈ splitS sss ccc ps, xs.length ≤ 1048576) ∧ (splitC sss ccc ps).length ≤ 1048576 ∧ (∀ xs ∈ splitC sss ccc ps, xs.length ≤ 1048576) ∧ (splitP sss ccc ps).length ≤ 1048576 ∧ Below w.heap.size w w' := by
  obtain ⟨b1, b2, b3, b4, b5⟩ := split_bd (P := ps) hx hy
  refine (implSplitSchool A n c sss B m d ccc C l e ps w h hn hx g hm hy q hl).mono ?_
  rintro er w' ⟨A1, c1, B1, d1, C1, e1, he, ho, hb⟩
  exact ⟨A1, c1, B1, d1, C1, e1, he, ho, b1, b2, b3, b4, b5, hb⟩
theorem specSplitSchoolC (A : Option Addr) (n c : Nat) (sss : List (List Int)) (B : Option Addr) (m d : Nat) (ccc : List (List Int)) (C : Option Addr) (l e : Nat) (ps : List Int) (w : World) (h : RowsAt w A n sss) (hn : n ≤ 1048576) (hx : ∀ xs ∈ sss, xs.length ≤ 1048576)
    (g : RowsAt w B m ccc) (hm : m ≤ 1048576) (hy : ∀ xs ∈ ccc, xs.length ≤ 1048576) (q : IntsAt w C l ps) (hl : l ≤ 1048576) :
    Calls Try.prog 24 #[.agg #[.slice A n c, .slice B m d, .slice C l e]] w fun er w' => ∃ A1 c1 B1 d1 C1 e1, er = .returned (.tuple #[.agg #[.slice A1 (splitS sss ccc ps).length c1, .slice B1 (splitC sss ccc ps).length d1, .slice C1 (splitP sss ccc ps).length e1], .bool (splitB sss ccc ps)]) ∧
      OwnSch w' w.heap.size w'.heap.size A1 (splitS sss ccc ps).length c1 (splitS sss ccc ps) B1 (splitC sss ccc ps).length d1 (splitC sss ccc ps) C1 (splitP sss ccc ps).length e1 (splitP sss ccc ps) ∧
      (splitS sss ccc ps).length ≤ 1048576 ∧ (∀ xs ∈ splitS sss ccc ps, xs.length ≤ 1048576) ∧ (splitC sss ccc ps).length ≤ 1048576 ∧ (∀ xs ∈ splitC sss ccc ps, xs.length ≤ 1048576) ∧ (splitP sss ccc ps).length ≤ 1048576 ∧ Below w.heap.size w w' := by
  obtain ⟨b1, b2, b3, b4, b5⟩ := split_bd (P := ps) hx hy
  refine (specSplitSchool A n c sss B m d ccc C l e ps w h hn hx g hm hy q hl).mono ?_
  rintro er w' ⟨A1, c1, B1, d1, C1, e1, he, ho, hb⟩
  exact ⟨A1, c1, B1, d1, C1, e1, he, ho, b1, b2, b3, b4, b5, hb⟩
end Go.Proofs.Ytmakbndlobaaaaa
