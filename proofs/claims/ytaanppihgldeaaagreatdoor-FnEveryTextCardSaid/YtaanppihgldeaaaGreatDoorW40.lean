/- The reference reads a profile. -/
import Derived.Test.YtaanppihgldeaaaGreatDoorW38
namespace Go.Proofs.YtaanppihgldeaaaGreatDoor
set_option linter.unusedSimpArgs false
set_option linter.unusedVariables false
set_option linter.unusedVariables false
open Go.RowKit

theorem words_len {a : ByteArray} {ts : List ByteArray} (h : ts.map (·.data.toList) = spC 32 [] a.data.toList) : wordsT a = ts := by
  unfold wordsT
  rw [← h, List.map_map]
  conv => rhs; rw [← List.map_id ts]
  exact List.map_congr_left fun _ _ => rfl
theorem spC_sum {c : UInt8} : ∀ (s cur : List UInt8), ((spC c cur s).map fun w => w.length + 1).sum = cur.length + s.length + 1
  | [], cur => by simp [spC]
  | x :: s, cur => by
    unfold spC
    split
    · rw [List.map_cons, List.sum_cons, spC_sum s []]; simp; omega
    · rw [spC_sum s]; simp; omega
theorem words_few {a : ByteArray} {ts : List ByteArray} (h : ts.map (·.data.toList) = spC 32 [] a.data.toList) (ha : a.size ≤ 1048576) (hp : ∀ j, j < ts.length → 0 < (sx ts j).size) : ts.length ≤ 1048576 := by
  have h1 := spC_sum (c := 32) a.data.toList []
  rw [← h, List.map_map] at h1
  have h2 : ∀ (l : List ByteArray), (∀ x ∈ l, 0 < x.size) → 2 * l.length ≤ (l.map ((fun w : List UInt8 => w.length + 1) ∘ fun x => x.data.toList)).sum := by
    intro l
    induction l with
    | nil => intro _; simp
    | cons x r ih =>
      intro hx
      have h3 := ih fun y hy => hx y (by simp [hy])
      have h4 := hx x (by simp)
      have h5 := size_list x
      rw [List.map_cons, List.sum_cons]
      simp only [Function.comp_apply, List.length_cons] at h3 ⊢
      omega
  have h6 := h2 ts fun x hx => by
    obtain ⟨j, hj, rfl⟩ := List.getElem_of_mem hx
    have := hp j hj
    rwa [sx_lt hj] at this
  have h7 := size_list a
  simp only [List.length_nil] at h1
  omega
theorem spC_len2 {a : ByteArray} {ts : List ByteArray} {c : UInt8} (h : ts.map (·.data.toList) = spC c [] a.data.toList) (ha : a.size ≤ 1048576) {k : Nat} (hk : k < ts.length) : (sx ts k).size ≤ 1048576 := spC_sizes h ha hk
theorem extract_tail {a : ByteArray} (h : 0 < a.size) : a.data.toList = a[0] :: (a.extract 1 a.size).data.toList := by
  have hl : 0 < a.data.toList.length := by rw [← size_list]; exact h
  rw [Lib.extract_data, size_list, List.take_of_length_le (by rw [List.length_drop]; exact Nat.le_refl _)]
  conv => lhs; rw [← List.drop_zero (l := a.data.toList), List.drop_eq_getElem_cons hl]
  rw [byte_at a 0 h hl]
set_option maxRecDepth 100000 in
set_option maxHeartbeats 8000000 in
theorem specParseProfile (a : ByteArray) (w : World) (ha : a.size ≤ 1048576) :
    Calls Tryz.prog 5 #[.string a] w (ReadProf a w) := by
  have b0 := alloc_below w (.cells #[.int .i64 0, .slice none 0 0] 24)
  obtain ⟨rr0, rr1⟩ := PBox.new w 0 none 0 0 24 rfl
  have rf0 := new_free w #[.int .i64 0, .slice none 0 0] 24 rfl 0
  have rf1 := new_free w #[.int .i64 0, .slice none 0 0] 24 rfl 1
  have s0 : (w.alloc (.cells #[.int .i64 0, .slice none 0 0] 24)).heap.size = w.heap.size + 1 := by simp
  generalize hw0 : w.alloc (.cells #[.int .i64 0, .slice none 0 0] 24) = w0 at *
  have b1 := alloc_below w0 (.cells #[.int .i64 0, .slice none 0 0] 24)
  obtain ⟨z0, z1⟩ := PBox.new w0 0 none 0 0 24 s0.symm
  have zf0 := new_free w0 #[.int .i64 0, .slice none 0 0] 24 s0.symm 0
  have zf1 := new_free w0 #[.int .i64 0, .slice none 0 0] 24 s0.symm 1
  have rf0 := old_free rr0 rf0 (.cells #[.int .i64 0, .slice none 0 0] 24)
  have rf1 := old_free rr1 rf1 (.cells #[.int .i64 0, .slice none 0 0] 24)
  have rr0 := cell_carry b1 rr0
  have rr1 := cell_carry b1 rr1
  have hb1 := b0.trans (b1.mono b0.size)
  have s1 : (w0.alloc (.cells #[.int .i64 0, .slice none 0 0] 24)).heap.size = w.heap.size + 2 := by simp [s0]
  clear b0 b1
  generalize hw1 : w0.alloc (.cells #[.int .i64 0, .slice none 0 0] 24) = w1 at *
  obtain ⟨y0, y1⟩ := pair_set z0 z1 (.int .i64 0) (.slice none 0 0)
  have yf0 := free2 zf0 (.int .i64 0) (.slice none 0 0)
  have yf1 := free2 zf1 (.int .i64 0) (.slice none 0 0)
  have K2 : Kept (w.heap.size + 1) (w.heap.size + 1) w1 ((w1.setCell ⟨w.heap.size + 1, 0, none⟩ (.int .i64 0)).setCell ⟨w.heap.size + 1, 1, none⟩ (.slice none 0 0)) := (Kept.setCell _ _ _ _ _).trans (Kept.setCell _ _ _ _ _)
  have s2 : ((w1.setCell ⟨w.heap.size + 1, 0, none⟩ (.int .i64 0)).setCell ⟨w.heap.size + 1, 1, none⟩ (.slice none 0 0)).heap.size = w.heap.size + 2 := by rw [World.size_setCell, World.size_setCell, s1]
  have rr0 := K2.cell rr0 (by show w.heap.size < _; omega) (by show w.heap.size ≠ _; omega)
  have rr1 := K2.cell rr1 (by show w.heap.size < _; omega) (by show w.heap.size ≠ _; omega)
  have rf0 := K2.frozen rf0 (by show w.heap.size < _; omega) (by show w.heap.size ≠ _; omega)
  have rf1 := K2.frozen rf1 (by show w.heap.size < _; omega) (by show w.heap.size ≠ _; omega)
  have hb2 := hb1.trans (K2.toBelow (B' := w.heap.size) (by omega) (by omega))
  have hcc0 : (0 : Nat) ≤ 0 := Nat.le_refl _
  by_cases hm : ∃ h : 0 < a.size, a[0].toNat = 45
  · obtain ⟨h0, h45⟩ := hm
    have hx : a[0].toNat < 256 := UInt8.toNat_lt _
    have hne : a ≠ ⟨#[]⟩ := by
      rintro rfl
      exact absurd h0 (by decide)
    have he := str_nil hne
    obtain ⟨t, hT⟩ : ∃ t, a.extract 1 a.size = t := ⟨_, rfl⟩
    have hts : t.size ≤ 1048576 := by rw [← hT]; simp; omega
    have HA := Lib.hid (show a.data.toList = 45 :: t.data.toList by
      have := extract_tail h0
      rw [hT] at this
      rw [this]
      congr 1
      exact UInt8.toNat_inj.1 h45)
    clear hne K2 hb1
    go_enter Tryz.func5, Tryz.ntmps5
    go_wp2_with fail
    clear hw1 hw0 z0 z1 zf0 zf1 s0
    generalize ((w1.setCell ⟨w.heap.size + 1, 0, none⟩ (.int .i64 0)).setCell ⟨w.heap.size + 1, 1, none⟩ (.slice none 0 0)) = w2 at *
    (with_reducible refine (specParseInt t w2 hts).mono ?_)
    rintro e w3 ⟨n, ok1, rfl, n0, n1, hn, b3⟩
    have HFIT : Hid (fitsB n [] a = true ↔ IsProf a) := fits_minus HA.out rfl (fun k hk e => (hn k hk e).1)
    clear hn HA
    have y0 := cell_carry b3 y0
    have y1 := cell_carry b3 y1
    have rr0_ := rr0
    have rr0 := cell_carry b3 rr0
    have rr1 := cell_carry b3 rr1
    have rf0 := (b3.frozen (p := ⟨w.heap.size, 0, none⟩) (cell_lt rr0_)).trans rf0
    have rf1 := (b3.frozen (p := ⟨w.heap.size, 1, none⟩) (cell_lt rr0_)).trans rf1
    have yf0 := (b3.frozen (p := ⟨w.heap.size + 1, 0, none⟩) (by show w.heap.size + 1 < _; omega)).trans yf0
    have hb3 := hb2.trans (b3.mono hb2.size)
    have s3 := b3.size
    clear b3 rr0_
    have z0 := World.cell?_setCell_same w3 ⟨w.heap.size + 1, 0, none⟩ (.int .i64 n) y0
    have z1 := (World.cell?_setCell_other w3 ⟨w.heap.size + 1, 0, none⟩ ⟨w.heap.size + 1, 1, none⟩ (.int .i64 n) (by simp)).trans y1
    have KS := Kept.setCell (w.heap.size + 1) (w.heap.size + 1) 0 w3 (.int .i64 n)
    have rr0 := KS.cell rr0 (by show w.heap.size < _; omega) (by show w.heap.size ≠ _; omega)
    have rr1 := KS.cell rr1 (by show w.heap.size < _; omega) (by show w.heap.size ≠ _; omega)
    have rf0 := KS.frozen rf0 (by show w.heap.size < _; omega) (by show w.heap.size ≠ _; omega)
    have rf1 := KS.frozen rf1 (by show w.heap.size < _; omega) (by show w.heap.size ≠ _; omega)
    have hbE := hb3.trans (KS.toBelow (B' := w.heap.size) (by omega) (by omega))
    have rr0_ := rr0
    have ho := OwnV.nil (w3.setCell ⟨w.heap.size + 1, 0, none⟩ (.int .i64 n)) (w.heap.size + 1) (w.heap.size + 1)
    have hv := votes_nil (w3.setCell ⟨w.heap.size + 1, 0, none⟩ (.int .i64 n))
    have hn : (0 : Nat) ≤ 1048576 := by omega
    have hcc : (0 : Nat) ≤ 0 ∧ (0 : Nat) ≤ 9223372036854775807 := ⟨Nat.le_refl _, by omega⟩
    have HX : Hid (∀ v ∈ ([] : List Vt), v.r.length ≤ 1048576) := fun v h => by simp at h
    clear KS hb3
    go_upto_region 14 with fail
    generalize w3.setCell ⟨w.heap.size + 1, 0, none⟩ (.int .i64 n) = w4 at *
    clear y0 y1 yf0 yf1
    have KO := Lib.hid (specProfileOk n none 0 0 ([] : List Vt) w4 hv hn HX.out)
    go_wp2_with fail
    (with_reducible refine KO.out.mono ?_)
    rintro e w5 ⟨rfl, b5⟩
    have z0 := cell_carry b5 z0
    have z1 := cell_carry b5 z1
    have rr0 := cell_carry b5 rr0
    have rr1 := cell_carry b5 rr1
    have rf0 := (b5.frozen (p := ⟨w.heap.size, 0, none⟩) (cell_lt rr0_)).trans rf0
    have rf1 := (b5.frozen (p := ⟨w.heap.size, 1, none⟩) (cell_lt rr0_)).trans rf1
    have rr0_ := rr0
    have hv := hv.below b5
    have ho := ho.belowW b5
    have hbE := hbE.trans (b5.mono hbE.size)
    clear KO b5
    rcases hok : profOk n ([] : List Vt)
    · have HI : Hid (¬ IsProf a) := fun h => by have := HFIT.out.2 h; unfold fitsB at this; rw [hok] at this; cases this
      clear hok HFIT
      obtain ⟨e0, e1⟩ := pair_set rr0 rr1 (.int .i64 0) (.slice none 0 0)
      have E0 := Lib.hid e0
      have E1 := Lib.hid e1
      have HB6 := Lib.hid (below2' (B := w.heap.size) hbE (Nat.le_refl _) (.int .i64 0) (.slice none 0 0))
      clear e0 e1
      go_wp2
      refine bodyPost_ret (v := .tuple #[.agg #[.int .i64 0, .slice none 0 0], .bool false]) (by simp [results, Tryz.results5, go_sem, E0.out, E1.out]) rfl ?_
      exact ⟨0, none, 0, 0, [], false, rfl, ⟨(fun h => by cases h), fun h => (HI.out h).elim⟩, votes_nil _, ⟨Nat.le_refl _, by omega⟩, (fun h => by cases h), HB6.out⟩
    · have HOK := Lib.hid hok
      have KF := Lib.hid (specFormatProfile n none 0 0 ([] : List Vt) w5 hv hok )
      clear hok
      go_wp2_with fail
      (with_reducible refine KF.out.mono ?_)
      rintro e w6 ⟨rfl, b6⟩
      have z0 := cell_carry b6 z0
      have z1 := cell_carry b6 z1
      have rr0 := cell_carry b6 rr0
      have rr1 := cell_carry b6 rr1
      have rf0 := (b6.frozen (p := ⟨w.heap.size, 0, none⟩) (cell_lt rr0_)).trans rf0
      have rf1 := (b6.frozen (p := ⟨w.heap.size, 1, none⟩) (cell_lt rr0_)).trans rf1
      have rr0_ := rr0
      have hv := hv.below b6
      have ho := ho.belowW b6
      have hbE := hbE.trans (b6.mono hbE.size)
      clear KF b6
      by_cases he : strOfNums (fmtN n ([] : List Vt)) = a
      · have he2 := str_eq he
        have HI : Hid (IsProf a) := ⟨_, _, HOK.out, he.symm⟩
        have HV := Lib.hid (own2 (B := w.heap.size) ho (by omega) (.int .i64 n) (.slice none 0 0)).at_
        clear he HFIT
        obtain ⟨e0, e1⟩ := pair_set rr0 rr1 (.int .i64 n) (.slice none 0 0)
        have E0 := Lib.hid e0
        have E1 := Lib.hid e1
        have HB6 := Lib.hid (below2' (B := w.heap.size) hbE (Nat.le_refl _) (.int .i64 n) (.slice none 0 0))
        clear e0 e1
        go_wp2
        refine bodyPost_ret (v := .tuple #[.agg #[.int .i64 n, .slice none 0 0], .bool true]) (by simp [results, Tryz.results5, go_sem, E0.out, E1.out]) rfl ?_
        exact ⟨n, none, 0, 0, ([] : List Vt), true, rfl, ⟨fun _ => HI.out, fun _ => rfl⟩, HV.out, hcc, (fun _ => HOK.out), HB6.out⟩
      · have he2 := str_ne he
        have HI : Hid (¬ IsProf a) := fun h => by have := HFIT.out.2 h; unfold fitsB at this; rw [Bool.and_eq_true, decide_eq_true_eq] at this; exact he this.2
        clear he HFIT
        obtain ⟨e0, e1⟩ := pair_set rr0 rr1 (.int .i64 0) (.slice none 0 0)
        have E0 := Lib.hid e0
        have E1 := Lib.hid e1
        have HB6 := Lib.hid (below2' (B := w.heap.size) hbE (Nat.le_refl _) (.int .i64 0) (.slice none 0 0))
        clear e0 e1
        go_wp2
        refine bodyPost_ret (v := .tuple #[.agg #[.int .i64 0, .slice none 0 0], .bool false]) (by simp [results, Tryz.results5, go_sem, E0.out, E1.out]) rfl ?_
        exact ⟨0, none, 0, 0, [], false, rfl, ⟨(fun h => by cases h), fun h => (HI.out h).elim⟩, votes_nil _, ⟨Nat.le_refl _, by omega⟩, (fun h => by cases h), HB6.out⟩
  · have HM : Hid (¬ ∃ l, a.data.toList = 45 :: l) := by
      rintro ⟨l, e⟩
      have h0 : 0 < a.size := by rw [size_list, e]; simp
      refine hm ⟨h0, ?_⟩
      have hl : 0 < a.data.toList.length := by rw [← size_list]; exact h0
      rw [← byte_at a 0 h0 hl]
      simp only [e]
      rfl
    have hcond : (a.size = 0 ∧ a.toList.isEmpty = true) ∨ ∃ h : 0 < a.size, a.toList.isEmpty = false ∧ ((a[0].toNat : Int) == 45) = false ∧ a[0].toNat < 256 := by
      by_cases hne : a = ⟨#[]⟩
      · exact .inl ⟨by rw [hne]; rfl, by rw [hne, ByteArray.toList_eq]; rfl⟩
      · have h0 : 0 < a.size := by
          rcases Nat.eq_zero_or_pos a.size with h | h
          · exact absurd (ByteArray.ext (Array.ext' (List.eq_nil_of_length_eq_zero (by rw [← size_list]; exact h)))) hne
          · exact h
        refine .inr ⟨h0, str_nil hne, ?_, UInt8.toNat_lt _⟩
        rw [beq_eq_false_iff_ne]
        intro e
        exact hm ⟨h0, by omega⟩
    clear hm K2 hb1
    rcases hcond with ⟨_, he⟩ | ⟨h0, he, h45, hx⟩
    all_goals
      go_enter Tryz.func5, Tryz.ntmps5
      go_wp2_with fail
      clear hw1 hw0 z0 z1 zf0 zf1 s0
      generalize ((w1.setCell ⟨w.heap.size + 1, 0, none⟩ (.int .i64 0)).setCell ⟨w.heap.size + 1, 1, none⟩ (.slice none 0 0)) = w2 at *
      (with_reducible refine (specSplitAny 32 a w2 ha).mono ?_)
      rintro e wS ⟨AT, cT, ts, rfl, hts, hos, hlt0, bS⟩
      have HW := Lib.hid (words_len hts)
      have HFEW := Lib.hid (words_few hts ha)
      have HTZ := Lib.hid (fun k (hk : k < ts.length) => spC_len2 hts ha hk)
      have hst := hos.slice.2.2
      have y0 := cell_carry bS y0
      have y1 := cell_carry bS y1
      have yf0 := (bS.frozen (p := ⟨w.heap.size + 1, 0, none⟩) (by show w.heap.size + 1 < _; omega)).trans yf0
      have yf1 := (bS.frozen (p := ⟨w.heap.size + 1, 1, none⟩) (by show w.heap.size + 1 < _; omega)).trans yf1
      have rf0 := (bS.frozen (p := ⟨w.heap.size, 0, none⟩) (cell_lt rr0)).trans rf0
      have rf1 := (bS.frozen (p := ⟨w.heap.size, 1, none⟩) (cell_lt rr0)).trans rf1
      have rr0 := cell_carry bS rr0
      have rr1 := cell_carry bS rr1
      have hbS := hb2.trans (bS.mono hb2.size)
      have sS := bS.size
      clear hts bS
      obtain ⟨B, hB⟩ : ∃ B, wS.heap.size = B := ⟨_, rfl⟩
      have hBk : w.heap.size + 2 ≤ B := by omega
      have hTne : ∀ bT oT, AT = some ⟨bT, oT, none⟩ → bT ≠ w.heap.size + 1 := fun bT oT e => by
        subst e
        have := (World.ownsRow.lt hos bT rfl).1
        omega
      have HTNE := Lib.hid hTne
      clear hos hTne
      go_wp2
      go_loopw [8, 9, 10, 30] (fun _ _ _ i_ wr => ∃ (k : Nat) (sz : Int) (us : List Vt) (A1 : Option Addr) (c1 : Nat), k ≤ ts.length ∧ i_ = .int .i64 k ∧ us.length = k ∧ wr.cell? ⟨w.heap.size + 1, 0, none⟩ = some (.int .i64 sz) ∧ wr.cell? ⟨w.heap.size + 1, 1, none⟩ = some (.slice A1 k c1) ∧ wr.frozen? ⟨w.heap.size + 1, 0, none⟩ = false ∧ wr.frozen? ⟨w.heap.size + 1, 1, none⟩ = false ∧ OwnV wr B wr.heap.size (.slice A1 k c1) us ∧ Kept B (w.heap.size + 1) wS wr ∧ Hid (ReadTo a us) ∧ Hid (SizeOk sz us) ∧ Hid (∀ v ∈ us, v.r.length ≤ 1048576) ∧ Hid (∀ j, j < k → 0 < (sx ts j).size) ∧ B ≤ wr.heap.size) (fun _ _ _ i_ _ => ts.length - (intOf i_).toNat)
      case atStart => exact ⟨0, 0, [], none, 0, Nat.zero_le _, rfl, rfl, y0, y1, yf0, yf1, OwnV.nil _ _ _, Kept.refl _ _ _, ReadTo.nil a, (fun h => absurd h (by simp)), (fun v h => by simp at h), (fun j h => by omega), by omega⟩
      case round =>
        clear y0 y1 yf0 yf1
        obtain ⟨k, sz, us, A1, c1, hk, rfl, hul, y0, y1, yf0, yf1, ho, hK, HR, HS, HX, HPZ, zr⟩ := hrel
        by_cases hlt : k < ts.length
        · obtain ⟨bT, oT, rfl, hbT, hcT⟩ := hst.at_ hlt
          have ck := hK.cell (hcT k hlt) (by show bT < B; omega) (by show bT ≠ _; exact HTNE.out bT oT rfl)
          have hzk := HTZ.out k hlt
          have HTK := Lib.hid (sx_lt hlt)
          have HULK := Lib.hid hul
          clear hul hcT
          obtain ⟨tk, htk⟩ : ∃ tk, sx ts k = tk := ⟨_, rfl⟩
          rw [htk] at ck hzk
          have HTKE := Lib.hid htk
          clear htk
          go_wp2_with fail
          (with_reducible refine (specVote tk wr hzk).mono ?_)
          rintro e wv ⟨v, AV, cV, ok, rfl, ov, hvv, hv5, hvp, bv⟩
          have HVV := Lib.hid hvv
          have HVP := Lib.hid hvp
          clear hvv hvp
          have hKv := hK.trans (Kept.of_below (B := B) (g := w.heap.size + 1) bv (by omega))
          have y0 := cell_carry bv y0
          have y1 := cell_carry bv y1
          have yf0 := (bv.frozen (p := ⟨w.heap.size + 1, 0, none⟩) (by show w.heap.size + 1 < _; omega)).trans yf0
          have yf1 := (bv.frozen (p := ⟨w.heap.size + 1, 1, none⟩) (by show w.heap.size + 1 < _; omega)).trans yf1
          have ho := ho.belowW bv
          have sv := bv.size
          clear hK bv ck
          have b8 := alloc_below wv (.cells #[.slice AV v.r.length cV, .int .i64 v.c] 44)
          obtain ⟨x0, x1⟩ := new_pair wv (.slice AV v.r.length cV) (.int .i64 v.c) 44 rfl
          have hK8 := hKv.trans (Kept.of_below (B := B) (g := w.heap.size + 1) b8 (by omega))
          have y0 := cell_carry b8 y0
          have y1 := cell_carry b8 y1
          have yf0 := (b8.frozen (p := ⟨w.heap.size + 1, 0, none⟩) (by show w.heap.size + 1 < _; omega)).trans yf0
          have yf1 := (b8.frozen (p := ⟨w.heap.size + 1, 1, none⟩) (by show w.heap.size + 1 < _; omega)).trans yf1
          have ho := ho.belowW b8
          have ov := ov.belowW b8
          have s8 : (wv.alloc (.cells #[.slice AV v.r.length cV, .int .i64 v.c] 44)).heap.size = wv.heap.size + 1 := by simp
          clear b8 hKv
          cases ok
          · have HI : Hid (¬ IsProf a) := bad_word HM.out (k := k) (t := tk) (by rw [HW.out]; exact hlt) (by
              have e1 := HTK.out
              have e2 := HTKE.out
              rw [← e2, e1]; simp only [HW.out]) (fun m u hu e => by have := (HVV.out m u hu e).2; cases this)
            have rr0 := hK8.cell rr0 (by show w.heap.size < _; omega) (by show w.heap.size ≠ _; omega)
            have rr1 := hK8.cell rr1 (by show w.heap.size < _; omega) (by show w.heap.size ≠ _; omega)
            have rf0 := hK8.frozen rf0 (by show w.heap.size < _; omega) (by show w.heap.size ≠ _; omega)
            have rf1 := hK8.frozen rf1 (by show w.heap.size < _; omega) (by show w.heap.size ≠ _; omega)
            have hbE := hbS.trans (hK8.toBelow (B' := w.heap.size) (by omega) (by omega))
            go_wp2_with fail
            generalize wv.alloc (.cells #[.slice AV v.r.length cV, .int .i64 v.c] 44) = w8 at *
            obtain ⟨e0, e1⟩ := pair_set rr0 rr1 (.int .i64 0) (.slice none 0 0)
            have E0 := Lib.hid e0
            have E1 := Lib.hid e1
            have HB6 := Lib.hid (below2' (B := w.heap.size) hbE (Nat.le_refl _) (.int .i64 0) (.slice none 0 0))
            clear e0 e1
            go_wp2
            refine bodyPost_ret (v := .tuple #[.agg #[.int .i64 0, .slice none 0 0], .bool false]) (by simp [results, Tryz.results5, go_sem, E0.out, E1.out]) rfl ?_
            exact ⟨0, none, 0, 0, [], false, rfl, ⟨(fun h => by cases h), fun h => (HI.out h).elim⟩, votes_nil _, ⟨Nat.le_refl _, by omega⟩, (fun h => by cases h), HB6.out⟩
          · have HPZ2 : Hid (∀ j, j < k + 1 → 0 < (sx ts j).size) := fun j hj => by
              by_cases e : j = k
              · subst e; have := HTKE.out; rw [this]; exact HVP.out rfl
              · exact HPZ.out j (by omega)
            have HR2 : Hid (ReadTo a (us ++ [v])) := HR.out.snoc (by rw [HW.out, HULK.out]; exact hlt) (by
              have e1 := HTK.out
              have e2 := HTKE.out
              have e3 : (wordsT a)[us.length]'(by rw [HW.out, HULK.out]; exact hlt) = tk := by rw [← e2, e1]; simp only [HW.out, HULK.out]
              rw [e3]
              exact fun m u hu e => (HVV.out m u hu e).1)
            have HS2 : Hid (SizeOk (v.r.length : Int) (us ++ [v])) := SizeOk.snoc us v
            have HX2 : Hid (∀ u ∈ us ++ [v], u.r.length ≤ 1048576) := fun u hu => by
              rcases List.mem_append.1 hu with hu | hu
              · exact HX.out u hu
              · rw [List.mem_singleton] at hu; subst hu; omega
            have HUL2 : Hid ((us ++ [v]).length = k + 1) := by show _ = _; rw [List.length_append, HULK.out]; rfl
            have HN5 := Lib.hid hv5
            clear HR HS HX HPZ HVV HVP HTK HTKE hv5
            go_upto_region 11 with fail
            generalize hw8 : wv.alloc (.cells #[.slice AV v.r.length cV, .int .i64 v.c] 44) = w8 at *
            have hm8 : B ≤ w8.heap.size := by omega
            clear hw8
            go_wp2_with (at_builtin; refine wpList_append_V _ rfl _ _ rfl B wr.heap.size k c1 A1 us rfl (ho.alloc _) AV v.r.length cV v.r v.c wr.heap.size wv.heap.size (ov.alloc _) (Nat.le_refl _) (by simp; omega) _ 1 rfl (new_pair w8 _ _ _ s8.symm).1 (new_pair w8 _ _ _ s8.symm).2 (by omega) zr (by simp; omega) ?_)
            intro A9 c9 w9 ho9 on9
            have y0_9 := on9.cell (old_cell y0 _) (by show ¬ (_ ≤ w.heap.size + 1 ∧ _); omega)
            have y1_9 := on9.cell (old_cell y1 _) (by show ¬ (_ ≤ w.heap.size + 1 ∧ _); omega)
            have yf0_9 := on9.frozen (p := ⟨w.heap.size + 1, 0, none⟩) (old_cell y0 _) (old_free y0 yf0 _) (by show ¬ (_ ≤ w.heap.size + 1 ∧ _); omega)
            have yf1_9 := on9.frozen (p := ⟨w.heap.size + 1, 1, none⟩) (old_cell y1 _) (old_free y1 yf1 _) (by show ¬ (_ ≤ w.heap.size + 1 ∧ _); omega)
            have x0_9 := on9.cell (old_cell x0 _) (by show ¬ (_ ≤ wv.heap.size ∧ wv.heap.size < _); omega)
            have hK9 := hK8.trans ((Kept.of_below (alloc_below w8 _) hm8).trans (Kept.of_only on9 (Nat.le_refl _) (by simp; omega)))
            have p1 := World.cell?_setCell_same w9 ⟨w.heap.size + 1, 1, none⟩ (.slice A9 (k + 1) c9) y1_9
            have p0 := (World.cell?_setCell_other w9 ⟨w.heap.size + 1, 1, none⟩ ⟨w.heap.size + 1, 0, none⟩ (.slice A9 (k + 1) c9) (by simp)).trans y0_9
            have px := (World.cell?_setCell_other w9 ⟨w.heap.size + 1, 1, none⟩ ⟨wv.heap.size, 0, none⟩ (.slice A9 (k + 1) c9) (by first | (simp; done) | (simp; omega))).trans x0_9
            have pf0 : (w9.setCell ⟨w.heap.size + 1, 1, none⟩ (.slice A9 (k + 1) c9)).frozen? ⟨w.heap.size + 1, 0, none⟩ = false := by rw [World.frozen?_setCell]; exact yf0_9
            have pf1 : (w9.setCell ⟨w.heap.size + 1, 1, none⟩ (.slice A9 (k + 1) c9)).frozen? ⟨w.heap.size + 1, 1, none⟩ = false := by rw [World.frozen?_setCell]; exact yf1_9
            have Q0 := Lib.hid (World.cell?_setCell_same (w9.setCell ⟨w.heap.size + 1, 1, none⟩ (.slice A9 (k + 1) c9)) ⟨w.heap.size + 1, 0, none⟩ (.int .i64 (v.r.length : Int)) p0)
            have Q1 := Lib.hid ((World.cell?_setCell_other (w9.setCell ⟨w.heap.size + 1, 1, none⟩ (.slice A9 (k + 1) c9)) ⟨w.heap.size + 1, 0, none⟩ ⟨w.heap.size + 1, 1, none⟩ (.int .i64 (v.r.length : Int)) (by simp)).trans p1)
            have QF0 : Hid (((w9.setCell ⟨w.heap.size + 1, 1, none⟩ (.slice A9 (k + 1) c9)).setCell ⟨w.heap.size + 1, 0, none⟩ (.int .i64 (v.r.length : Int))).frozen? ⟨w.heap.size + 1, 0, none⟩ = false) := by show _ = _; rw [World.frozen?_setCell]; exact pf0
            have QF1 : Hid (((w9.setCell ⟨w.heap.size + 1, 1, none⟩ (.slice A9 (k + 1) c9)).setCell ⟨w.heap.size + 1, 0, none⟩ (.int .i64 (v.r.length : Int))).frozen? ⟨w.heap.size + 1, 1, none⟩ = false) := by show _ = _; rw [World.frozen?_setCell]; exact pf1
            have QK := Lib.hid (hK9.trans ((Kept.setCell B (w.heap.size + 1) 1 w9 (.slice A9 (k + 1) c9)).trans (Kept.setCell B (w.heap.size + 1) 0 _ (.int .i64 (v.r.length : Int)))))
            have QO : Hid (OwnV ((w9.setCell ⟨w.heap.size + 1, 1, none⟩ (.slice A9 (k + 1) c9)).setCell ⟨w.heap.size + 1, 0, none⟩ (.int .i64 (v.r.length : Int))) B ((w9.setCell ⟨w.heap.size + 1, 1, none⟩ (.slice A9 (k + 1) c9)).setCell ⟨w.heap.size + 1, 0, none⟩ (.int .i64 (v.r.length : Int))).heap.size (.slice A9 (k + 1) c9) (us ++ [v])) :=
              (ho9.keep fun k h1 h2 h3 => by rw [Below.heap_setCell _ _ _ _ (by show k ≠ w.heap.size + 1; omega), Below.heap_setCell _ _ _ _ (by show k ≠ w.heap.size + 1; omega)]).mono (Nat.le_refl _) (by rw [World.size_setCell, World.size_setCell]; exact Nat.le_refl _)
            have QZ : Hid (B ≤ ((w9.setCell ⟨w.heap.size + 1, 1, none⟩ (.slice A9 (k + 1) c9)).setCell ⟨w.heap.size + 1, 0, none⟩ (.int .i64 (v.r.length : Int))).heap.size) := by show _ ≤ _; rw [World.size_setCell, World.size_setCell]; have := on9.size; simp at this; omega
            clear ho9 on9 hK9 y0_9 yf0_9 x0_9 hK8 ho ov x0 x1 y0 y1 yf0 yf1
            go_wp2
            go_roundw
            case rel => exact ⟨k + 1, (v.r.length : Int), us ++ [v], A9, c9, by omega, by go_num, HUL2.out, Q0.out, Q1.out, QF0.out, QF1.out, QO.out, QK.out, HR2.out, HS2.out, HX2.out, HPZ2.out, QZ.out⟩
            case measure => simp [intOf]; omega
        · obtain rfl : k = ts.length := by omega
          have HFIT : Hid (fitsB sz us a = true ↔ IsProf a) := fits_words HM.out HR.out (by rw [HW.out]; exact hul) HS.out
          have hn : ts.length ≤ 1048576 := HFEW.out HPZ.out
          have rr0 := hK.cell rr0 (by show w.heap.size < _; omega) (by show w.heap.size ≠ _; omega)
          have rr1 := hK.cell rr1 (by show w.heap.size < _; omega) (by show w.heap.size ≠ _; omega)
          have rf0 := hK.frozen rf0 (by show w.heap.size < _; omega) (by show w.heap.size ≠ _; omega)
          have rf1 := hK.frozen rf1 (by show w.heap.size < _; omega) (by show w.heap.size ≠ _; omega)
          have hbE := hbS.trans (hK.toBelow (B' := w.heap.size) (by omega) (by omega))
          have rr0_ := rr0
          have hv := ho.at_
          have hcc := (⟨ho.num.2, ownV_cap ho⟩ : ts.length ≤ c1 ∧ c1 ≤ 9223372036854775807)
          have z0 := y0
          have z1 := y1
          have HUL := Lib.hid hul
          clear y0 y1 yf0 yf1 hK HR HS HPZ hul
          go_upto_region 14 with fail
          have KO := Lib.hid (specProfileOk sz A1 ts.length c1 us wr hv hn HX.out)
          go_wp2_with fail
          (with_reducible refine KO.out.mono ?_)
          rintro e w5 ⟨rfl, b5⟩
          have z0 := cell_carry b5 z0
          have z1 := cell_carry b5 z1
          have rr0 := cell_carry b5 rr0
          have rr1 := cell_carry b5 rr1
          have rf0 := (b5.frozen (p := ⟨w.heap.size, 0, none⟩) (cell_lt rr0_)).trans rf0
          have rf1 := (b5.frozen (p := ⟨w.heap.size, 1, none⟩) (cell_lt rr0_)).trans rf1
          have rr0_ := rr0
          have hv := hv.below b5
          have ho := ho.belowW b5
          have hbE := hbE.trans (b5.mono hbE.size)
          clear KO b5
          rcases hok : profOk sz us
          · have HI : Hid (¬ IsProf a) := fun h => by have := HFIT.out.2 h; unfold fitsB at this; rw [hok] at this; cases this
            clear hok HFIT
            obtain ⟨e0, e1⟩ := pair_set rr0 rr1 (.int .i64 0) (.slice none 0 0)
            have E0 := Lib.hid e0
            have E1 := Lib.hid e1
            have HB6 := Lib.hid (below2' (B := w.heap.size) hbE (Nat.le_refl _) (.int .i64 0) (.slice none 0 0))
            clear e0 e1
            go_wp2
            refine bodyPost_ret (v := .tuple #[.agg #[.int .i64 0, .slice none 0 0], .bool false]) (by simp [results, Tryz.results5, go_sem, E0.out, E1.out]) rfl ?_
            exact ⟨0, none, 0, 0, [], false, rfl, ⟨(fun h => by cases h), fun h => (HI.out h).elim⟩, votes_nil _, ⟨Nat.le_refl _, by omega⟩, (fun h => by cases h), HB6.out⟩
          · have HOK := Lib.hid hok
            have KF := Lib.hid (specFormatProfile sz A1 ts.length c1 us w5 hv hok )
            clear hok
            go_wp2_with fail
            (with_reducible refine KF.out.mono ?_)
            rintro e w6 ⟨rfl, b6⟩
            have z0 := cell_carry b6 z0
            have z1 := cell_carry b6 z1
            have rr0 := cell_carry b6 rr0
            have rr1 := cell_carry b6 rr1
            have rf0 := (b6.frozen (p := ⟨w.heap.size, 0, none⟩) (cell_lt rr0_)).trans rf0
            have rf1 := (b6.frozen (p := ⟨w.heap.size, 1, none⟩) (cell_lt rr0_)).trans rf1
            have rr0_ := rr0
            have hv := hv.below b6
            have ho := ho.belowW b6
            have hbE := hbE.trans (b6.mono hbE.size)
            clear KF b6
            by_cases he : strOfNums (fmtN sz us) = a
            · have he2 := str_eq he
              have HI : Hid (IsProf a) := ⟨_, _, HOK.out, he.symm⟩
              have HV := Lib.hid (own2 (B := w.heap.size) ho (by omega) (.int .i64 sz) (.slice A1 ts.length c1)).at_
              clear he HFIT
              obtain ⟨e0, e1⟩ := pair_set rr0 rr1 (.int .i64 sz) (.slice A1 ts.length c1)
              have E0 := Lib.hid e0
              have E1 := Lib.hid e1
              have HB6 := Lib.hid (below2' (B := w.heap.size) hbE (Nat.le_refl _) (.int .i64 sz) (.slice A1 ts.length c1))
              clear e0 e1
              go_wp2
              refine bodyPost_ret (v := .tuple #[.agg #[.int .i64 sz, .slice A1 ts.length c1], .bool true]) (by simp [results, Tryz.results5, go_sem, E0.out, E1.out]) rfl ?_
              exact ⟨sz, A1, ts.length, c1, us, true, rfl, ⟨fun _ => HI.out, fun _ => rfl⟩, HV.out, hcc, (fun _ => HOK.out), HB6.out⟩
            · have he2 := str_ne he
              have HI : Hid (¬ IsProf a) := fun h => by have := HFIT.out.2 h; unfold fitsB at this; rw [Bool.and_eq_true, decide_eq_true_eq] at this; exact he this.2
              clear he HFIT
              obtain ⟨e0, e1⟩ := pair_set rr0 rr1 (.int .i64 0) (.slice none 0 0)
              have E0 := Lib.hid e0
              have E1 := Lib.hid e1
              have HB6 := Lib.hid (below2' (B := w.heap.size) hbE (Nat.le_refl _) (.int .i64 0) (.slice none 0 0))
              clear e0 e1
              go_wp2
              refine bodyPost_ret (v := .tuple #[.agg #[.int .i64 0, .slice none 0 0], .bool false]) (by simp [results, Tryz.results5, go_sem, E0.out, E1.out]) rfl ?_
              exact ⟨0, none, 0, 0, [], false, rfl, ⟨(fun h => by cases h), fun h => (HI.out h).elim⟩, votes_nil _, ⟨Nat.le_refl _, by omega⟩, (fun h => by cases h), HB6.out⟩
end Go.Proofs.YtaanppihgldeaaaGreatDoor
