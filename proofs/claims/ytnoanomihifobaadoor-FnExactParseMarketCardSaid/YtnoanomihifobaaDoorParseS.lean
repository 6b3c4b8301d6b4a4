/- The reference's ParseMarket. -/
import Derived.Test.YtnoanomihifobaaDoorParseM
import Derived.Test.YtnoanomihifobaaDoorFmtS
namespace Go.Proofs.YtnoanomihifobaaDoor
set_option linter.unusedVariables false
open Go.RowKit

theorem rdS_len : ∀ {ws : List (List UInt8)} {b : Bool} {M W : List (List Int)} {r : List (List Int) × List (List Int)}, rdS ws b M W = some r → 2 * (r.1.length + r.2.length) ≤ 2 * (M.length + W.length) + (ws.map fun w => w.length + 1).sum
  | [], _, M, W, r, h => by simp [rdS] at h; subst h; simp
  | w :: ws, b, M, W, r, h => by
    unfold rdS at h
    rw [List.map_cons, List.sum_cons]
    by_cases hw : w = [124]
    · rw [if_pos hw] at h
      have := rdS_len h
      omega
    · rw [if_neg hw] at h
      cases hk : okR w
      · rw [hk] at h; cases h
      · rw [hk, if_pos rfl] at h
        have h1 := (rankOk_facts (show rankOk (w.length : Int) (lsR w) = true from hk)).1
        cases b <;> (simp only [Bool.false_eq_true, if_false, if_true] at h; have := rdS_len h; simp at this; omega)
theorem wds_sum (a : ByteArray) : ((wds a).map fun w => w.length + 1).sum = a.size + 1 := by
  unfold wds
  rw [spA_sum, ← size_list]; simp
theorem permC {p a b c d : Pc} {X Y : List Pc} : (a :: b :: c :: d :: ((X ++ [p]) ++ Y)).Perm (p :: a :: b :: c :: d :: (X ++ Y)) := by
  have h : a :: b :: c :: d :: ((X ++ [p]) ++ Y) = (a :: b :: c :: d :: X) ++ p :: Y := by simp
  rw [h]
  exact List.perm_middle
theorem permD {p a b c d : Pc} {X Y : List Pc} : (a :: b :: c :: d :: (X ++ (Y ++ [p]))).Perm (p :: a :: b :: c :: d :: (X ++ Y)) := by
  have h : a :: b :: c :: d :: (X ++ (Y ++ [p])) = (a :: b :: c :: d :: (X ++ Y)) ++ p :: [] := by simp
  rw [h]
  have := List.perm_middle (a := p) (l₁ := a :: b :: c :: d :: (X ++ Y)) (l₂ := [])
  simpa using this
def pW (v : Value) (ts : List ByteArray) : Pc := ⟨9, 1, v, ts.length, ts.map Value.string⟩
/-- the pieces while the words are read, the words among them -/
def PhQ (lo g : Nat) (vw : Value) (ts : List ByteArray) (M W : List (List Int)) (wr : World) : Prop :=
  ∃ A1 c1 A2 c2 us vs, us.length = M.length ∧ vs.length = W.length ∧
    OwnL wr lo wr.heap.size (pS 24 g [.slice A1 M.length c1, .slice A2 W.length c2] :: pR (.slice A1 M.length c1) us :: pR (.slice A2 W.length c2) vs :: pW vw ts :: (rowsL us M ++ rowsL vs W))
set_option maxRecDepth 100000 in
set_option maxHeartbeats 4000000 in
theorem specParseMarket (a : ByteArray) (w : World) (ha : a.size ≤ 1048576) :
    Calls Tryd.prog 4 #[.string a] w fun e w' => ∃ A1 c1 B1 d1, e = .returned (.tuple #[.agg #[.slice A1 (parMen a).length c1, .slice B1 (parWom a).length d1], .bool (parOk a)]) ∧
      OwnMk w' w.heap.size w'.heap.size A1 (parMen a).length c1 (parMen a) B1 (parWom a).length d1 (parWom a) ∧ Below w.heap.size w w' := by
  have hrows := rdF_rows (wds a) false [] [] (by simp) (by simp)
  have R := MkR.start w 24
  have hz1 : (w.alloc (.cells #[.slice none 0 0, .slice none 0 0] 24)).heap.size = w.heap.size + 1 := by simp
  have HRW := Lib.hid hrows
  clear hrows
  have b3 := pair_below (w.alloc (.cells #[.slice none 0 0, .slice none 0 0] 24)) (.slice none 0 0) (.slice none 0 0) 24
  have O3 := pS_newM (w.alloc (.cells #[.slice none 0 0, .slice none 0 0] 24)) 24 [.slice none 0 0, .slice none 0 0] (by simp)
  have R3 := R.later b3 (by simp) (Nat.le_refl _)
  have hz3 : ((w.alloc (.cells #[.slice none 0 0, .slice none 0 0] 24)).alloc (.cells #[.slice none 0 0, .slice none 0 0] 24)).heap.size = w.heap.size + 2 := by simp
  rw [hz1] at O3
  have P3 : PhP (w.heap.size + 1) (w.heap.size + 1) [] [] ((w.alloc (.cells #[.slice none 0 0, .slice none 0 0] 24)).alloc (.cells #[.slice none 0 0, .slice none 0 0] 24)) := by
    refine ⟨none, 0, none, 0, [], [], rfl, rfl, ?_⟩
    have h3 := OwnL.addNew O3 (p := pR (.slice none 0 0) []) (Below.refl _ _) (World.ownsRow_nil _ _ _ _) (by simp) (fun k e => by cases (show (none : Option Nat) = some k from e))
    have h4 := h3.addNew (p := pR (.slice none 0 0) []) (Below.refl _ _) (World.ownsRow_nil _ _ _ _) (by simp) (fun k e => by cases (show (none : Option Nat) = some k from e))
    refine h4.perm ?_
    show ([_, _, _] : List Pc).Perm [_, _, _]
    exact (List.Perm.swap _ _ _).trans ((List.Perm.swap _ _ _).cons _)
  clear O3 b3 R hz1
  go_enter Tryd.func4, Tryd.ntmps4
  go_wp2_with fail
  generalize (w.alloc (.cells #[.slice none 0 0, .slice none 0 0] 24)).alloc (.cells #[.slice none 0 0, .slice none 0 0] 24) = w3 at *
  (with_reducible refine (specSplitAny a w3 ha).mono ?_)
  rintro e w4 ⟨A2, c2, ts, rfl, hts, ho2, hl2, hb2⟩
  have HTS := Lib.hid hts
  obtain ⟨g4, hg4⟩ : ∃ g4, w.heap.size + 1 = g4 := ⟨_, rfl⟩
  rw [hg4] at P3 ⊢
  have hlt0 : w.heap.size < g4 := by omega
  have hg43 : g4 ≤ w3.heap.size := by omega
  have hne : 0 < ts.length := by
    rw [← List.length_map (f := fun x : ByteArray => x.data.toList), hts]
    cases e : wds a with
    | nil => exact absurd e (spA_ne _ _)
    | cons x l => simp
  have hAt : ∃ bt, A2 = some ⟨bt, 0, none⟩ := by
    rcases ho2.2 with ⟨e1, e2⟩ | ⟨g, cap, cur, hv, _⟩
    · omega
    · exact ⟨g, by injection hv⟩
  obtain ⟨bt, rfl⟩ := hAt
  have R4 := R3.later (b := w3.heap.size) hb2 (by omega) (Nat.le_refl _)
  have P4 : PhQ g4 g4 (.slice (some ⟨bt, 0, none⟩) ts.length c2) ts [] [] w4 := by
    obtain ⟨A1, c1, A3, c3, us, vs, h1, h2, h3⟩ := P3
    have h4 := h3.addNew (p := pW (.slice (some ⟨bt, 0, none⟩) ts.length c2) ts) hb2 (own0 ho2) hg43 (fun k e => (World.ownsRow.lt ho2 k e).1)
    refine ⟨A1, c1, A3, c3, us, vs, h1, h2, h4.perm ?_⟩
    have := List.perm_middle (a := pW (.slice (some ⟨bt, 0, none⟩) ts.length c2) ts) (l₁ := [pS 24 g4 [.slice A1 0 c1, .slice A3 0 c3], pR (.slice A1 0 c1) us, pR (.slice A3 0 c3) vs]) (l₂ := rowsL us [] ++ rowsL vs [])
    exact this
  have hlo4 : g4 ≤ w4.heap.size := Nat.le_trans hg43 hb2.size
  clear hts ho2 P3 R3 hg4 hb2
  go_wp2
  go_loopw [5, 14] (fun b_ k_ wr => ∃ (k : Nat) (bar : Bool) (M W : List (List Int)), k ≤ ts.length ∧ k_ = .int .i64 k ∧ b_ = .bool bar ∧ rdS ((wds a).drop k) bar M W = rdS (wds a) false [] [] ∧ M.length + W.length ≤ k ∧ PhQ g4 g4 (.slice (some ⟨bt, 0, none⟩) ts.length c2) ts M W wr ∧ Below g4 w4 wr) (fun _ k_ _ => ts.length - (intOf k_).toNat)
  case atStart => exact ⟨0, false, [], [], Nat.zero_le _, rfl, rfl, rfl, Nat.le_refl _, P4, Below.refl _ _⟩
  case round =>
    obtain ⟨k, bar, M, W, hk, rfl, rfl, hpf, hsum, P, hB⟩ := hrel
    have HPF := Lib.hid hpf
    clear hpf P4
    have hlo : g4 ≤ wr.heap.size := by have := hB.size; omega
    have R5 := R4.later hB hlt0 (Nat.le_refl _)
    by_cases hlt : k < ts.length
    · obtain ⟨hw1, hw2⟩ := word_at HTS.out hlt
      have hkw : k < (wds a).length := by have := congrArg List.length HTS.out; rw [List.length_map] at this; omega
      have hdr := List.drop_eq_getElem_cons hkw
      have HR : Hid (rdS ((sx ts k).data.toList :: (wds a).drop (k + 1)) bar M W = rdS (wds a) false [] []) := by
        show _ = _
        rw [hw1, ← hdr]; exact HPF.out
      have hws : (sx ts k).size ≤ 1048576 := by omega
      obtain ⟨A4, c4, A5, c5, us, vs, hul, hvl, hO⟩ := P
      have cw := hO.cellAt (i := 3) rfl k (by omega)
      rw [List.getElem?_map, List.getElem?_eq_getElem hlt, ← sx_lt hlt] at cw
      change wr.cell? ⟨bt, k, none⟩ = some (.string (sx ts k)) at cw
      generalize sx ts k = wd at *
      have HU := Lib.hid hul
      have HV := Lib.hid hvl
      have HO4 := Lib.hid hO
      have hM : M.length ≤ 1048577 := by omega
      have hW : W.length ≤ 1048577 := by omega
      clear hul hvl hO hw1 hdr hkw hw2
      by_cases hbar : wd = ⟨#[124]⟩
      · have he : (wd.toList == [124]) = true := by rw [hbar, ByteArray.toList_eq]; rfl
        have HR2 : Hid (rdS ((wds a).drop (k + 1)) true M W = rdS (wds a) false [] []) := by
          show _ = _
          rw [← HR.out]
          conv => rhs; unfold rdS
          rw [if_pos (word_bar.1 hbar)]
        have P5 : PhQ g4 g4 (.slice (some ⟨bt, 0, none⟩) ts.length c2) ts M W wr := ⟨A4, c4, A5, c5, us, vs, HU.out, HV.out, HO4.out⟩
        clear hbar
        go_wp2
        go_roundw
        case rel => exact ⟨k + 1, true, M, W, by omega, by go_num, rfl, HR2.out, by omega, P5, hB⟩
        case measure => simp [intOf]; omega
      · have he : (wd.toList == [124]) = false := by rw [beq_eq_false_iff_ne, ByteArray.toList_eq]; exact fun e => hbar (word_bar.2 e)
        have hnb : wd.data.toList ≠ [124] := fun e => hbar (word_bar.2 e)
        have HR2 : Hid ((if okR wd.data.toList then (if bar then rdS ((wds a).drop (k + 1)) bar M (W ++ [lsR wd.data.toList]) else rdS ((wds a).drop (k + 1)) bar (M ++ [lsR wd.data.toList]) W) else none) = rdS (wds a) false [] []) := by
          show _ = _
          rw [← HR.out]
          conv => rhs; unfold rdS
          rw [if_neg hnb]
        clear hbar hnb HR
        go_wp2_with fail
        (with_reducible refine (specParseRanking wd wr hws).mono ?_)
        rintro e w5 ⟨A6, c6, rfl, ho6, hb6⟩
        rcases hok6 : okR wd.data.toList
        · have hnone : Hid (rdS (wds a) false [] [] = none) := by show _ = _; rw [← HR2.out, hok6]; rfl
          have hok : Hid (parOk a = false) := by show _ = _; unfold parOk; rw [hnone.out]; rfl
          have HN := Lib.hid (par_no hok.out)
          have R6 := R5.later hb6 R5.lt (Nat.le_refl _)
          have q0 := R6.y0
          have q1 := R6.y1
          have f0 := R6.f 0
          have f1 := R6.f 1
          clear cw ho6 hb6 HR2 hnone
          go_wp2
          obtain ⟨e0, e1, b1, n1⟩ := R6.fin (Nat.le_refl _) (u := .slice none 0 0) (v := .slice none 0 0) rfl
          rw [HN.out.1, HN.out.2, hok.out]
          exact bodyPost_ret (v := .tuple #[.agg #[.slice none 0 0, .slice none 0 0], .bool false]) (by simp [results, Tryd.results4, go_sem, e0, e1]) rfl ⟨none, 0, none, 0, rfl, OwnMk.nil _ _ _, b1⟩
        · have hpl := parR_yes hok6
          rw [hpl] at ho6 ⊢
          rw [hok6] at HR2
          have HO5 := Lib.hid (HO4.out.addNew hb6 (pI_new ho6 (Nat.le_refl _)).1 hlo (pI_new ho6 (Nat.le_refl _)).2)
          have hB4 := hB.trans (hb6.mono hlo)
          have hlo5 : g4 ≤ w5.heap.size := Nat.le_trans hlo hb6.size
          clear ho6 hb6 HO4 hB cw hpl hok6
          generalize lsR wd.data.toList = l6 at *
          cases bar
          · have HR3 : Hid (rdS ((wds a).drop (k + 1)) false (M ++ [l6]) W = rdS (wds a) false [] []) := HR2.out
            have s0_ := HO5.out.cellAt (i := 1) rfl 0 (by simp)
            simp only [List.getElem?_cons_zero] at s0_
            clear HR2
            go_wp2_with (at_builtin; refine wpList_append_pR _ rfl _ _ rfl g4 2 M.length c4 A4 us _ rfl w5.heap.size (by simp) (HO5.out.alloc _) rfl (.slice A6 l6.length c6) _ 1 rfl (new_cell _ _ _ rfl) rfl (by omega) (by simp; omega) ?_)
            intro A7 c7 w7 ho7 hb7
            have hlo7 : g4 ≤ w7.heap.size := by have h1 := hb7.size; have h2 : (w5.alloc (.cells #[.slice A6 l6.length c6] 32)).heap.size = w5.heap.size + 1 := World.size_alloc _ _; omega
            have s7 := ho7.cellAt (i := 1) rfl 0 (by simp)
            have sf7 := ho7.frozenAt (i := 1) rfl 0
            simp only [List.getElem?_cons_zero] at s7
            obtain ⟨O8, B8⟩ := ho7.storedB (i := 1) rfl hlo7 0 (.slice A7 (M.length + 1) c7)
            have HB8 := Lib.hid (hB4.trans (((Below.refl g4 w5).alloc hlo5 _).trans (hb7.trans B8)))
            have HP8 : Hid (PhQ g4 g4 (.slice (some ⟨bt, 0, none⟩) ts.length c2) ts (M ++ [l6]) W (w7.setCell ⟨g4, 0, none⟩ (.slice A7 (M.length + 1) c7))) := by
              refine ⟨A7, c7, A5, c5, us ++ [.slice A6 l6.length c6], vs, by rw [List.length_append, List.length_append, HU.out]; rfl, HV.out, ?_⟩
              rw [rowsL_append HU.out, show (M ++ [l6]).length = M.length + 1 from by simp]
              exact O8.perm permC
            clear ho7 hb7 O8 B8 HO5 s0_
            go_wp2
            go_roundw
            case rel => exact ⟨k + 1, false, M ++ [l6], W, by omega, by go_num, rfl, HR3.out, by simp; omega, HP8.out, HB8.out⟩
            case measure => simp [intOf]; omega
          · have HR3 : Hid (rdS ((wds a).drop (k + 1)) true M (W ++ [l6]) = rdS (wds a) false [] []) := HR2.out
            have s0_ := HO5.out.cellAt (i := 1) rfl 1 (by simp)
            simp only [List.getElem?_cons_zero, List.getElem?_cons_succ] at s0_
            clear HR2
            go_wp2_with (at_builtin; refine wpList_append_pR _ rfl _ _ rfl g4 3 W.length c5 A5 vs _ rfl w5.heap.size (by simp) (HO5.out.alloc _) rfl (.slice A6 l6.length c6) _ 1 rfl (new_cell _ _ _ rfl) rfl (by omega) (by simp; omega) ?_)
            intro A7 c7 w7 ho7 hb7
            have hlo7 : g4 ≤ w7.heap.size := by have h1 := hb7.size; have h2 : (w5.alloc (.cells #[.slice A6 l6.length c6] 32)).heap.size = w5.heap.size + 1 := World.size_alloc _ _; omega
            have s7 := ho7.cellAt (i := 1) rfl 1 (by simp)
            have sf7 := ho7.frozenAt (i := 1) rfl 1
            simp only [List.getElem?_cons_zero, List.getElem?_cons_succ] at s7
            obtain ⟨O8, B8⟩ := ho7.storedB (i := 1) rfl hlo7 1 (.slice A7 (W.length + 1) c7)
            have HB8 := Lib.hid (hB4.trans (((Below.refl g4 w5).alloc hlo5 _).trans (hb7.trans B8)))
            have HP8 : Hid (PhQ g4 g4 (.slice (some ⟨bt, 0, none⟩) ts.length c2) ts M (W ++ [l6]) (w7.setCell ⟨g4, 1, none⟩ (.slice A7 (W.length + 1) c7))) := by
              refine ⟨A4, c4, A7, c7, us, vs ++ [.slice A6 l6.length c6], HU.out, by rw [List.length_append, List.length_append, HV.out]; rfl, ?_⟩
              rw [rowsL_append HV.out, show (W ++ [l6]).length = W.length + 1 from by simp]
              exact O8.perm permD
            clear ho7 hb7 O8 B8 HO5 s0_
            go_wp2
            go_roundw
            case rel => exact ⟨k + 1, true, M, W ++ [l6], by omega, by go_num, rfl, HR3.out, by simp; omega, HP8.out, HB8.out⟩
            case measure => simp [intOf]; omega
    · obtain rfl : k = ts.length := by omega
      obtain ⟨A4, c4, A5, c5, us, vs, hul, hvl, hO⟩ := P
      have hsome : rdS (wds a) false [] [] = some (M, W) := by
        rw [← HPF.out, List.drop_eq_nil_of_le (by have := congrArg List.length HTS.out; rw [List.length_map] at this; omega)]
        rfl
      have hfin : parF a = (M, W) := rdS_some hsome
      have hM1 : (parF a).1 = M := by rw [hfin]
      have hW1 : (parF a).2 = W := by rw [hfin]
      have hbd := rdS_len hsome
      rw [wds_sum] at hbd
      simp only [List.length_nil] at hbd
      have hrM : ∀ xs ∈ M, xs.length ≤ 1048576 := fun xs hxs => by
        have := HRW.out.1 xs (by show xs ∈ (parF a).1; rw [hM1]; exact hxs)
        omega
      have hrW : ∀ xs ∈ W, xs.length ≤ 1048576 := fun xs hxs => by
        have := HRW.out.2 xs (by show xs ∈ (parF a).2; rw [hW1]; exact hxs)
        omega
      have HO2 : Hid (parOk a = (marketOk M W && decide (fmtMarket M W = a))) := by show _ = _; unfold parOk; rw [hsome, hM1, hW1]; rfl
      have OM : OwnMk wr g4 wr.heap.size A4 M.length c4 M A5 W.length c5 W := by
        refine ⟨rfl, rfl, us, vs, hul, hvl, hO.sub ?_⟩
        exact List.Sublist.cons _ (List.Sublist.cons_cons _ (List.Sublist.cons_cons _ (List.Sublist.cons _ (List.Sublist.refl _))))
      have s0_ := hO.cellAt (i := 0) rfl 0 (by simp)
      have s1_ := hO.cellAt (i := 0) rfl 1 (by simp)
      simp only [List.getElem?_cons_zero, List.getElem?_cons_succ] at s0_ s1_
      have HM1 := Lib.hid hM1
      have HW1 := Lib.hid hW1
      have hM := OM.men
      have hW := OM.women
      have hM9 : M.length ≤ 1048576 := by omega
      have hW9 : W.length ≤ 1048576 := by omega
      clear hfin hM1 hW1 hO hul hvl HPF hk hsum hlt HRW hsome hbd
      go_wp2_with fail
      (with_reducible refine (specMarketOk _ _ _ M _ _ _ W wr hM hM9 hrM hW hW9 hrW).mono ?_)
      rintro e w5 ⟨rfl, hb5⟩
      have R6 := R5.later hb5 R5.lt (Nat.le_refl _)
      have s0 := cell_carry hb5 s0_
      have s1 := cell_carry hb5 s1_
      rcases hmk : marketOk M W
      · have hok : Hid (parOk a = false) := by show _ = _; rw [HO2.out, hmk]; rfl
        have HN := Lib.hid (par_no hok.out)
        have q0 := R6.y0
        have q1 := R6.y1
        have f0 := R6.f 0
        have f1 := R6.f 1
        clear hmk s0_ s1_
        go_wp2
        obtain ⟨e0, e1, b1, n1⟩ := R6.fin (Nat.le_refl _) (u := .slice none 0 0) (v := .slice none 0 0) rfl
        rw [HN.out.1, HN.out.2, hok.out]
        exact bodyPost_ret (v := .tuple #[.agg #[.slice none 0 0, .slice none 0 0], .bool false]) (by simp [results, Tryd.results4, go_sem, e0, e1]) rfl ⟨none, 0, none, 0, rfl, OwnMk.nil _ _ _, b1⟩
      · rw [hmk, Bool.true_and] at HO2
        have hM2 := hM.below hb5
        have hW2 := hW.below hb5
        have OM5 := OM.belowW hb5
        clear hmk s0_ s1_ OM hM hW
        go_wp2_with fail
        (with_reducible refine (specFormatMarket _ _ _ M _ _ _ W w5 hM2 hM9 hrM hW2 hW9 hrW).mono ?_)
        rintro e w6 ⟨rfl, hb6⟩
        have R7 := R6.later hb6 R6.lt (Nat.le_refl _)
        have s0' := cell_carry hb6 s0
        have s1' := cell_carry hb6 s1
        have OM6 := OM5.belowW hb6
        have hz6 := hb6.size
        have hz5 := hb5.size
        have q0 := R7.y0
        have q1 := R7.y1
        have f0 := R7.f 0
        have f1 := R7.f 1
        clear s0 s1 OM5 hM2 hW2 hb6
        generalize fmtMarket M W = fm at *
        by_cases hfa : fm = a
        · have hok : Hid (parOk a = true) := by show _ = _; rw [HO2.out, decide_eq_true hfa]
          have HN := Lib.hid (par_yes hok.out)
          have he := str_eq hfa
          clear hfa
          go_wp2
          obtain ⟨e0, e1, b1, n1⟩ := R7.fin (Nat.le_refl _) (u := .slice A4 M.length c4) (v := .slice A5 W.length c5) rfl
          rw [HN.out.1, HN.out.2, hok.out, HM1.out, HW1.out]
          refine bodyPost_ret (v := .tuple #[.agg #[.slice A4 M.length c4, .slice A5 W.length c5], .bool true]) (by simp [results, Tryd.results4, go_sem, e0, e1]) rfl ⟨A4, c4, A5, c5, rfl, ?_, b1⟩
          obtain ⟨_, _, us, vs, h4, h5, h6⟩ := OM6.only n1 (.inr (by omega))
          exact ⟨rfl, rfl, us, vs, h4, h5, h6.mono (by omega) (by have := n1.size; omega)⟩
        · have hok : Hid (parOk a = false) := by show _ = _; rw [HO2.out, decide_eq_false hfa]
          have HN := Lib.hid (par_no hok.out)
          have he := str_ne hfa
          clear hfa
          go_wp2
          obtain ⟨e0, e1, b1, n1⟩ := R7.fin (Nat.le_refl _) (u := .slice none 0 0) (v := .slice none 0 0) rfl
          rw [HN.out.1, HN.out.2, hok.out]
          exact bodyPost_ret (v := .tuple #[.agg #[.slice none 0 0, .slice none 0 0], .bool false]) (by simp [results, Tryd.results4, go_sem, e0, e1]) rfl ⟨none, 0, none, 0, rfl, OwnMk.nil _ _ _, b1⟩
end Go.Proofs.YtnoanomihifobaaDoor
