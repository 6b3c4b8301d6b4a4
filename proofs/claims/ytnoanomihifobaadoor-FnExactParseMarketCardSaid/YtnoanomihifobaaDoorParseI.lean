/- The program's ParseMarket. -/
import Derived.Test.YtnoanomihifobaaDoorParseM
namespace Go.Proofs.YtnoanomihifobaaDoor
set_option linter.unusedVariables false
open Go.RowKit

set_option maxRecDepth 100000 in
set_option maxHeartbeats 4000000 in
theorem implParseMarket (a : ByteArray) (m : Int) (w : World) (ha : a.size ≤ 1048576) (hm : w.cell? ⟨0, 0, none⟩ = some (.int .i64 m)) :
    Calls Tryd.prog 5 #[.string a] w fun e w' => ∃ A1 c1 B1 d1, e = .returned (.tuple #[.agg #[.slice A1 (parMen a).length c1, .slice B1 (parWom a).length d1], .bool (parOk a)]) ∧
      OwnMk w' w.heap.size w'.heap.size A1 (parMen a).length c1 (parMen a) B1 (parWom a).length d1 (parWom a) ∧ Below w.heap.size w w' := by
  have hO := parOk_impl a
  have hrows := rdF_rows (wds a) false [] [] (by simp) (by simp)
  have hlens := rdF_len (wds a) false [] []
  have R := MkR.start w 24
  have hm1 := old_cell hm (.cells #[.slice none 0 0, .slice none 0 0] 24)
  have hz1 : (w.alloc (.cells #[.slice none 0 0, .slice none 0 0] 24)).heap.size = w.heap.size + 1 := by simp
  have HO := Lib.hid hO
  have HRW := Lib.hid hrows
  have HLN := Lib.hid hlens
  clear hO hrows hlens
  go_enter Tryd.func5, Tryd.ntmps5
  go_wp2_with fail
  generalize w.alloc (.cells #[.slice none 0 0, .slice none 0 0] 24) = w1 at *
  (with_reducible refine (implSplit a m w1 ha hm1).mono ?_)
  rintro e w2 ⟨A2, c2, ts, rfl, hts, ho2, hl2, hb2⟩
  have R2 := R.later hb2 (by omega) (Nat.le_refl _)
  have htl : ts.length = (wds a).length := by rw [← hts, List.length_map]
  have HTS := Lib.hid hts
  have hst := ho2.slice.2.2
  clear hts R hm1
  by_cases h11 : 11 < ts.length
  · have hok : Hid (parOk a = false) := by
      show _ = _
      rw [HO.out, decide_eq_false (by omega)]
      rfl
    have HN := Lib.hid (par_no hok.out)
    have h11' : (11 : Int) < (ts.length : Int) := by omega
    have q0 := R2.y0
    have q1 := R2.y1
    have f0 := R2.f 0
    have f1 := R2.f 1
    clear htl
    go_wp2
    obtain ⟨e0, e1, b1, n1⟩ := R2.fin (Nat.le_refl _) (u := .slice none 0 0) (v := .slice none 0 0) rfl
    rw [HN.out.1, HN.out.2, hok.out]
    exact bodyPost_ret (v := .tuple #[.agg #[.slice none 0 0, .slice none 0 0], .bool false]) (by simp [results, Tryd.results5, go_sem, e0, e1]) rfl ⟨none, 0, none, 0, rfl, OwnMk.nil _ _ _, b1⟩
  · have h11' : (ts.length : Int) ≤ 11 := by omega
    have b3 := pair_below w2 (.slice none 0 0) (.slice none 0 0) 24
    have O3 := pS_newM w2 24 [.slice none 0 0, .slice none 0 0] (by simp)
    have R3 := R2.later b3 R2.lt (Nat.le_refl _)
    have hz3 : (w2.alloc (.cells #[.slice none 0 0, .slice none 0 0] 24)).heap.size = w2.heap.size + 1 := by simp
    have hg5 := hb2.size
    have P3 : PhP w2.heap.size w2.heap.size [] [] (w2.alloc (.cells #[.slice none 0 0, .slice none 0 0] 24)) := by
      refine ⟨none, 0, none, 0, [], [], rfl, rfl, ?_⟩
      have h3 := OwnL.addNew O3 (p := pR (.slice none 0 0) []) (Below.refl _ _) (World.ownsRow_nil _ _ _ _) (by simp) (fun k e => by cases (show (none : Option Nat) = some k from e))
      have h4 := h3.addNew (p := pR (.slice none 0 0) []) (Below.refl _ _) (World.ownsRow_nil _ _ _ _) (by simp) (fun k e => by cases (show (none : Option Nat) = some k from e))
      refine h4.perm ?_
      show ([_, _, _] : List Pc).Perm [_, _, _]
      exact (List.Perm.swap _ _ _).trans ((List.Perm.swap _ _ _).cons _)
    have hb23 := b3
    have hne : 0 < ts.length := by
      rw [htl]
      cases e : wds a with
      | nil => exact absurd e (spA_ne _ _)
      | cons x l => simp
    obtain ⟨bt, ot, rfl, _, _⟩ := hst.at_ hne
    have HST := Lib.hid hst
    clear O3 b3 R2 hst ho2 htl
    go_wp2_with fail
    obtain ⟨w3, hw3⟩ : ∃ w3, w2.alloc (.cells #[.slice none 0 0, .slice none 0 0] 24) = w3 := ⟨_, rfl⟩
    obtain ⟨g5, hg⟩ : ∃ g5, w2.heap.size = g5 := ⟨_, rfl⟩
    rw [hw3] at P3 R3 hz3 hb23 ⊢
    have HG := Lib.hid hg
    rw [hg] at P3 hz3 hg5 ⊢
    clear hw3 hg hb2
    have hlt0 : w.heap.size < g5 := by omega
    go_loopw [6, 19] (fun b_ k_ wr => ∃ (k : Nat) (bar : Bool) (M W : List (List Int)), k ≤ ts.length ∧ k_ = .int .i64 k ∧ b_ = .bool bar ∧ rdF ((wds a).drop k) bar M W = parF a ∧ M.length + W.length ≤ k ∧ PhP g5 g5 M W wr ∧ Below g5 w3 wr) (fun _ k_ _ => ts.length - (intOf k_).toNat)
    case atStart => exact ⟨0, false, [], [], Nat.zero_le _, rfl, rfl, rfl, Nat.le_refl _, P3, Below.refl _ _⟩
    case round =>
      obtain ⟨k, bar, M, W, hk, rfl, rfl, hpf, hsum, P, hB⟩ := hrel
      have HPF := Lib.hid hpf
      clear hpf
      have hlo : g5 ≤ wr.heap.size := by have := hB.size; omega
      by_cases hlt : k < ts.length
      · have hstr := HST.out.below (hb23.trans (by rw [HG.out]; exact hB))
        obtain ⟨b2, o2, e2, _, hc2⟩ := hstr.at_ hlt
        cases e2
        have cw := hc2 k hlt
        obtain ⟨hw1, hw2⟩ := word_at HTS.out hlt
        have hkw : k < (wds a).length := by have := congrArg List.length HTS.out; rw [List.length_map] at this; omega
        have hdr := List.drop_eq_getElem_cons hkw
        have HR : Hid (rdF ((sx ts k).data.toList :: (wds a).drop (k + 1)) bar M W = parF a) := by
          show _ = _
          rw [hw1, ← hdr]; exact HPF.out
        have hws : (sx ts k).size ≤ 1048576 := by omega
        generalize sx ts k = wd at *
        obtain ⟨A4, c4, A5, c5, us, vs, hul, hvl, hO⟩ := P
        have HU := Lib.hid hul
        have HV := Lib.hid hvl
        have HO4 := Lib.hid hO
        have hM : M.length ≤ 11 := by omega
        have hW : W.length ≤ 11 := by omega
        clear hul hvl hO hc2 hw1 hdr hkw hstr hw2
        go_wp2_with fail
        (with_reducible refine (implParseRanking wd wr hws).mono ?_)
        rintro e w4 ⟨A6, c6, rfl, ho6, hb6⟩
        have HO5 := Lib.hid (HO4.out.addNew hb6 (pI_new ho6 (Nat.le_refl _)).1 hlo (pI_new ho6 (Nat.le_refl _)).2)
        have hB4 := hB.trans (hb6.mono hlo)
        have hlo4 : g5 ≤ w4.heap.size := Nat.le_trans hlo hb6.size
        clear ho6 hb6 HO4 hB cw
        by_cases hbar : wd = ⟨#[124]⟩
        · have he : (wd.toList == [124]) = true := by rw [hbar, ByteArray.toList_eq]; rfl
          have HR2 : Hid (rdF ((wds a).drop (k + 1)) true M W = parF a) := by
            show _ = _
            rw [← HR.out]
            conv => rhs; unfold rdF
            rw [if_pos (word_bar.1 hbar)]
          have P5 : PhP g5 g5 M W w4 := ⟨A4, c4, A5, c5, us, vs, HU.out, HV.out, HO5.out.drop1⟩
          clear hbar
          go_wp2
          go_roundw
          case rel => exact ⟨k + 1, true, M, W, by omega, by go_num, rfl, HR2.out, by omega, P5, hB4⟩
          case measure => simp [intOf]; omega
        · have he : (wd.toList == [124]) = false := by rw [beq_eq_false_iff_ne, ByteArray.toList_eq]; exact fun e => hbar (word_bar.2 e)
          have hnb : wd.data.toList ≠ [124] := fun e => hbar (word_bar.2 e)
          have HR2 : Hid ((if bar then rdF ((wds a).drop (k + 1)) bar M (W ++ [parR wd.data.toList]) else rdF ((wds a).drop (k + 1)) bar (M ++ [parR wd.data.toList]) W) = parF a) := by
            show _ = _
            rw [← HR.out]
            conv => rhs; unfold rdF
            rw [if_neg hnb]
          clear hbar hnb HR
          generalize parR wd.data.toList = l6 at *
          generalize okR wd.data.toList = k6 at *
          cases bar
          · have HR3 : Hid (rdF ((wds a).drop (k + 1)) false (M ++ [l6]) W = parF a) := HR2.out
            have s0_ := HO5.out.cellAt (i := 1) rfl 0 (by simp)
            simp only [List.getElem?_cons_zero] at s0_
            clear HR2
            go_wp2_with (at_builtin; refine wpList_append_pR _ rfl _ _ rfl g5 2 M.length c4 A4 us _ rfl w4.heap.size (by simp) (HO5.out.alloc _) rfl (.slice A6 l6.length c6) _ 1 rfl (new_cell _ _ _ rfl) rfl (by omega) (by simp; omega) ?_)
            intro A7 c7 w7 ho7 hb7
            have hlo7 : g5 ≤ w7.heap.size := by have h1 := hb7.size; have h2 : (w4.alloc (.cells #[.slice A6 l6.length c6] 32)).heap.size = w4.heap.size + 1 := World.size_alloc _ _; omega
            have s7 := ho7.cellAt (i := 1) rfl 0 (by simp)
            have sf7 := ho7.frozenAt (i := 1) rfl 0
            simp only [List.getElem?_cons_zero] at s7
            obtain ⟨O8, B8⟩ := ho7.storedB (i := 1) rfl hlo7 0 (.slice A7 (M.length + 1) c7)
            have HB8 := Lib.hid (hB4.trans (((Below.refl g5 w4).alloc hlo4 _).trans (hb7.trans B8)))
            have HP8 : Hid (PhP g5 g5 (M ++ [l6]) W (w7.setCell ⟨g5, 0, none⟩ (.slice A7 (M.length + 1) c7))) := by
              refine ⟨A7, c7, A5, c5, us ++ [.slice A6 l6.length c6], vs, by rw [List.length_append, List.length_append, HU.out]; rfl, HV.out, ?_⟩
              rw [rowsL_append HU.out, show (M ++ [l6]).length = M.length + 1 from by simp]
              exact O8.perm permA
            clear ho7 hb7 O8 B8 HO5 s0_
            go_wp2
            go_roundw
            case rel => exact ⟨k + 1, false, M ++ [l6], W, by omega, by go_num, rfl, HR3.out, by simp; omega, HP8.out, HB8.out⟩
            case measure => simp [intOf]; omega
          · have HR3 : Hid (rdF ((wds a).drop (k + 1)) true M (W ++ [l6]) = parF a) := HR2.out
            have s0_ := HO5.out.cellAt (i := 1) rfl 1 (by simp)
            simp only [List.getElem?_cons_zero, List.getElem?_cons_succ] at s0_
            clear HR2
            go_wp2_with (at_builtin; refine wpList_append_pR _ rfl _ _ rfl g5 3 W.length c5 A5 vs _ rfl w4.heap.size (by simp) (HO5.out.alloc _) rfl (.slice A6 l6.length c6) _ 1 rfl (new_cell _ _ _ rfl) rfl (by omega) (by simp; omega) ?_)
            intro A7 c7 w7 ho7 hb7
            have hlo7 : g5 ≤ w7.heap.size := by have h1 := hb7.size; have h2 : (w4.alloc (.cells #[.slice A6 l6.length c6] 32)).heap.size = w4.heap.size + 1 := World.size_alloc _ _; omega
            have s7 := ho7.cellAt (i := 1) rfl 1 (by simp)
            have sf7 := ho7.frozenAt (i := 1) rfl 1
            simp only [List.getElem?_cons_zero, List.getElem?_cons_succ] at s7
            obtain ⟨O8, B8⟩ := ho7.storedB (i := 1) rfl hlo7 1 (.slice A7 (W.length + 1) c7)
            have HB8 := Lib.hid (hB4.trans (((Below.refl g5 w4).alloc hlo4 _).trans (hb7.trans B8)))
            have HP8 : Hid (PhP g5 g5 M (W ++ [l6]) (w7.setCell ⟨g5, 1, none⟩ (.slice A7 (W.length + 1) c7))) := by
              refine ⟨A4, c4, A7, c7, us, vs ++ [.slice A6 l6.length c6], HU.out, by rw [List.length_append, List.length_append, HV.out]; rfl, ?_⟩
              rw [rowsL_append HV.out, show (W ++ [l6]).length = W.length + 1 from by simp]
              exact O8.perm permB
            clear ho7 hb7 O8 B8 HO5 s0_
            go_wp2
            go_roundw
            case rel => exact ⟨k + 1, true, M, W ++ [l6], by omega, by go_num, rfl, HR3.out, by simp; omega, HP8.out, HB8.out⟩
            case measure => simp [intOf]; omega
      · obtain rfl : k = ts.length := by omega
        obtain ⟨A4, c4, A5, c5, us, vs, hul, hvl, hO⟩ := P
        have hfin : (M, W) = parF a := by
          rw [← HPF.out, List.drop_eq_nil_of_le (by have := congrArg List.length HTS.out; rw [List.length_map] at this; omega)]
          rfl
        have hM1 : (parF a).1 = M := by rw [← hfin]
        have hW1 : (parF a).2 = W := by rw [← hfin]
        have hrM : ∀ xs ∈ M, xs.length ≤ 1048576 := fun xs hxs => by
          have := HRW.out.1 xs (by show xs ∈ (parF a).1; rw [hM1]; exact hxs)
          omega
        have hrW : ∀ xs ∈ W, xs.length ≤ 1048576 := fun xs hxs => by
          have := HRW.out.2 xs (by show xs ∈ (parF a).2; rw [hW1]; exact hxs)
          omega
        have hO2 := HO.out
        rw [hM1, hW1, decide_eq_true (show (wds a).length ≤ 11 by have := congrArg List.length HTS.out; rw [List.length_map] at this; omega), Bool.true_and] at hO2
        have OM : OwnMk wr g5 wr.heap.size A4 M.length c4 M A5 W.length c5 W := ⟨rfl, rfl, us, vs, hul, hvl, hO.drop1⟩
        have s0_ := hO.cellAt (i := 0) rfl 0 (by simp)
        have s1_ := hO.cellAt (i := 0) rfl 1 (by simp)
        simp only [List.getElem?_cons_zero, List.getElem?_cons_succ] at s0_ s1_
        have R4 := R3.later hB hlt0 (Nat.le_refl _)
        have HM1 := Lib.hid hM1
        have HW1 := Lib.hid hW1
        have hM := OM.men
        have hW := OM.women
        have hM9 : M.length ≤ 1048576 := by omega
        have hW9 : W.length ≤ 1048576 := by omega
        have HO2 := Lib.hid hO2
        clear hfin hM1 hW1 hO hul hvl HPF hk hsum hlt HRW hO2
        go_wp2_with fail
        (with_reducible refine (implMarketOk _ _ _ M _ _ _ W wr hM hM9 hrM hW hW9 hrW).mono ?_)
        rintro e w5 ⟨rfl, hb5⟩
        have R5 := R4.later hb5 R4.lt (Nat.le_refl _)
        have s0 := cell_carry hb5 s0_
        have s1 := cell_carry hb5 s1_
        rcases hmk : marketOk M W
        · have hok : Hid (parOk a = false) := by show _ = _; rw [HO2.out, hmk]; rfl
          have HN := Lib.hid (par_no hok.out)
          have q0 := R5.y0
          have q1 := R5.y1
          have f0 := R5.f 0
          have f1 := R5.f 1
          clear hmk s0_ s1_
          go_wp2
          obtain ⟨e0, e1, b1, n1⟩ := R5.fin (Nat.le_refl _) (u := .slice none 0 0) (v := .slice none 0 0) rfl
          rw [HN.out.1, HN.out.2, hok.out]
          exact bodyPost_ret (v := .tuple #[.agg #[.slice none 0 0, .slice none 0 0], .bool false]) (by simp [results, Tryd.results5, go_sem, e0, e1]) rfl ⟨none, 0, none, 0, rfl, OwnMk.nil _ _ _, b1⟩
        · rw [hmk, Bool.true_and] at HO2
          have hM2 := hM.below hb5
          have hW2 := hW.below hb5
          have OM5 := OM.belowW hb5
          clear hmk s0_ s1_ OM hM hW
          go_wp2_with fail
          (with_reducible refine (implFormatMarket _ _ _ M _ _ _ W w5 hM2 hM9 hrM hW2 hW9 hrW).mono ?_)
          rintro e w6 ⟨rfl, hb6⟩
          have R6 := R5.later hb6 R5.lt (Nat.le_refl _)
          have s0' := cell_carry hb6 s0
          have s1' := cell_carry hb6 s1
          have OM6 := OM5.belowW hb6
          have hz6 := hb6.size
          have hz5 := hb5.size
          have q0 := R6.y0
          have q1 := R6.y1
          have f0 := R6.f 0
          have f1 := R6.f 1
          clear s0 s1 OM5 hM2 hW2 hb6
          generalize fmtMarket M W = fm at *
          by_cases hfa : fm = a
          · have hok : Hid (parOk a = true) := by show _ = _; rw [HO2.out, decide_eq_true hfa]
            have HN := Lib.hid (par_yes hok.out)
            have he := str_eq hfa
            clear hfa
            go_wp2
            obtain ⟨e0, e1, b1, n1⟩ := R6.fin (Nat.le_refl _) (u := .slice A4 M.length c4) (v := .slice A5 W.length c5) rfl
            rw [HN.out.1, HN.out.2, hok.out, HM1.out, HW1.out]
            refine bodyPost_ret (v := .tuple #[.agg #[.slice A4 M.length c4, .slice A5 W.length c5], .bool true]) (by simp [results, Tryd.results5, go_sem, e0, e1]) rfl ⟨A4, c4, A5, c5, rfl, ?_, b1⟩
            obtain ⟨_, _, us, vs, h4, h5, h6⟩ := OM6.only n1 (.inr (by omega))
            exact ⟨rfl, rfl, us, vs, h4, h5, h6.mono (by omega) (by have := n1.size; omega)⟩
          · have hok : Hid (parOk a = false) := by show _ = _; rw [HO2.out, decide_eq_false hfa]
            have HN := Lib.hid (par_no hok.out)
            have he := str_ne hfa
            clear hfa
            go_wp2
            obtain ⟨e0, e1, b1, n1⟩ := R6.fin (Nat.le_refl _) (u := .slice none 0 0) (v := .slice none 0 0) rfl
            rw [HN.out.1, HN.out.2, hok.out]
            exact bodyPost_ret (v := .tuple #[.agg #[.slice none 0 0, .slice none 0 0], .bool false]) (by simp [results, Tryd.results5, go_sem, e0, e1]) rfl ⟨none, 0, none, 0, rfl, OwnMk.nil _ _ _, b1⟩
end Go.Proofs.YtnoanomihifobaaDoor
