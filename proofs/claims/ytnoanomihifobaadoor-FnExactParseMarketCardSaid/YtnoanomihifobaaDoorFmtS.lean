/- The text of a market: the reference's side. -/
import Derived.Test.YtnoanomihifobaaDoorFmtM
namespace Go.Proofs.YtnoanomihifobaaDoor
set_option linter.unusedVariables false
open Go.RowKit

/-- the words joined so far -/
def joinK (T : List (List Int)) (k : Nat) : List Int := joinN (T.take k)
theorem nx_take {T : List (List Int)} {k : Nat} (h : k < T.length) : T.take (k + 1) = T.take k ++ [rx T k] := take_rx h
theorem joinK_first {T : List (List Int)} (h : 0 < T.length) : joinK T 1 = joinK T 0 ++ rx T 0 := by
  unfold joinK
  rw [nx_take h]
  simp [joinN]
theorem joinK_next {T : List (List Int)} {k : Nat} (h : k < T.length) (h0 : 0 < k) : joinK T (k + 1) = (joinK T k ++ [32]) ++ rx T k := by
  unfold joinK
  rw [nx_take h, joinN_snoc _ _ (by intro e; have := congrArg List.length e; rw [List.length_take, List.length_nil] at this; omega)]
theorem joinK_len {T : List (List Int)} (k : Nat) (h : ∀ x ∈ T, x.length ≤ 10) (hn : T.length ≤ 100) : (joinK T k).length ≤ 2000 := by
  unfold joinK
  have := joinN_len (T.take k) 10 (fun x hx => h x (List.mem_of_mem_take hx))
  have : (T.take k).length ≤ 100 := by simp; omega
  omega
set_option maxHeartbeats 800000 in
theorem specJoin_any (A : Option Addr) (n c : Nat) (T : List (List Int)) (w : World) (h : StrsAt w A n (T.map strOfNums)) (hn : T.length ≤ 100) (hb : ∀ x ∈ T, x.length ≤ 10) :
    Calls Tryd.prog 23 #[.slice A n c, .string { data := #[32] }] w fun e w' => e = .returned (.string (strOfNums (joinN T))) ∧ w = w' := by
  obtain rfl := h.1
  have hl : (T.map strOfNums).length = T.length := List.length_map _
  have HJ0 : Hid (strOfNums (joinK T 0) = ⟨#[]⟩) := rfl
  have HE : Hid (strOfNums (joinK T T.length) = strOfNums (joinN T)) := by show _ = _; unfold joinK; rw [List.take_length]
  have H1 := Lib.hid (fun (h : 0 < T.length) => (by rw [str_append, ← joinK_first h] : strOfNums (joinK T 0) ++ strOfNums (rx T 0) = strOfNums (joinK T 1)))
  have H2 := Lib.hid (fun k (h : k < T.length) (h0 : 0 < k) => (by rw [str_append, str_append, ← joinK_next h h0] : (strOfNums (joinK T k) ++ strOfNums [32]) ++ strOfNums (rx T k) = strOfNums (joinK T (k + 1))))
  have H3 := Lib.hid (fun k => (by rw [strOfNums_size]; exact joinK_len k hb hn : (strOfNums (joinK T k)).size ≤ 2000))
  have H4 := Lib.hid (fun k (h : k < T.length) => (by rw [strOfNums_size]; exact hb _ (rx_mem h) : (strOfNums (rx T k)).size ≤ 10))
  have H5 := Lib.hid (fun k (h : k < T.length) => (by rw [sx_lt (by rw [List.length_map]; exact h), List.getElem_map, rx_lt h] : sx (T.map strOfNums) k = strOfNums (rx T k)))
  obtain ⟨S, hS⟩ : ∃ S : Nat → ByteArray, ∀ k, strOfNums (joinK T k) = S k := ⟨_, fun _ => rfl⟩
  obtain ⟨R, hR⟩ : ∃ R : Nat → ByteArray, ∀ k, strOfNums (rx T k) = R k := ⟨_, fun _ => rfl⟩
  simp only [hS, hR] at HJ0 HE H1 H2 H3 H4 H5
  have e32 : strOfNums [32] = { data := #[32] } := rfl
  rw [e32] at H2
  clear hS hR hb e32
  rw [hl] at h ⊢
  clear hl
  go_enter Tryd.func23, Tryd.ntmps23
  go_wp2
  go_loop [5, 6, 7, 10] (fun v _ _ i_ => ∃ k : Nat, k ≤ T.length ∧ i_ = .int .i64 k ∧ v = .string (S k)) (fun _ _ _ i_ => T.length - (intOf i_).toNat)
  case atStart => exact ⟨0, Nat.zero_le _, rfl, by rw [HJ0.out]⟩
  case round =>
    obtain ⟨k, hk, rfl, rfl⟩ := hrel
    by_cases hlt : k < T.length
    · obtain ⟨b, o, rfl, _, hcc⟩ := h.at_ hlt
      have ck := hcc k hlt
      rw [H5.out k hlt] at ck
      have s1 := H3.out k
      have s2 := H4.out k hlt
      clear hcc
      by_cases h0 : k = 0
      · subst h0
        rw [Nat.add_zero] at ck
        have HS := Lib.hid (H1.out hlt)
        have hz : (S 0).size + (R 0).size ≤ 9223372036854775807 := by omega
        go_wp2
        go_round
        case rel => exact ⟨1, by omega, by go_num, by rw [HS.out]⟩
        case measure => simp [intOf]; omega
      · have HS := Lib.hid (H2.out k hlt (by omega))
        have t0 : (0 : Int) < (k : Int) := by omega
        have e1 : ({ data := #[32] } : ByteArray).size = 1 := rfl
        have hz : (S k).size + ({ data := #[32] } : ByteArray).size ≤ 9223372036854775807 := by omega
        have hz2 : (S k ++ ({ data := #[32] } : ByteArray)).size + (R k).size ≤ 9223372036854775807 := by rw [ByteArray.size_append]; omega
        clear e1 h0
        go_wp2
        go_round
        case rel => exact ⟨k + 1, by omega, by go_num, by rw [HS.out]⟩
        case measure => simp [intOf]; omega
    · obtain rfl : k = T.length := by omega
      rw [HE.out]
      go_wp2
      go_ret
      exact ⟨rfl, rfl⟩
/-- the words laid so far -/
def wordsA (xss : List (List Int)) (k : Nat) : List (List Int) := (xss.take k).map rankNums
def wordsB (xss yss : List (List Int)) (k : Nat) : List (List Int) := xss.map rankNums ++ [[124]] ++ (yss.take k).map rankNums
theorem wordsA_step {xss : List (List Int)} {k : Nat} (h : k < xss.length) : (wordsA xss (k + 1)).map strOfNums = (wordsA xss k).map strOfNums ++ [strOfNums (rankNums (rx xss k))] := by unfold wordsA; rw [take_rx h]; simp
theorem wordsB_step {xss yss : List (List Int)} {k : Nat} (h : k < yss.length) : (wordsB xss yss (k + 1)).map strOfNums = (wordsB xss yss k).map strOfNums ++ [strOfNums (rankNums (rx yss k))] := by unfold wordsB; rw [take_rx h]; simp
set_option maxRecDepth 100000 in
set_option maxHeartbeats 2000000 in
theorem specFormatMarket (A : Option Addr) (n c : Nat) (xss : List (List Int)) (B : Option Addr) (m d : Nat) (yss : List (List Int)) (w : World) (h : RowsAt w A n xss) (hn : n ≤ 1048576) (hx : ∀ xs ∈ xss, xs.length ≤ 1048576)
    (g : RowsAt w B m yss) (hm : m ≤ 1048576) (hy : ∀ xs ∈ yss, xs.length ≤ 1048576) :
    Calls Tryd.prog 12 #[.agg #[.slice A n c, .slice B m d]] w fun e w' => e = .returned (.string (fmtMarket xss yss)) ∧ Below w.heap.size w w' := by
  obtain rfl := h.len
  obtain rfl := g.len
  have HX := Lib.hid hx
  have HY := Lib.hid hy
  clear hx hy
  have hall := pair_below w (.slice A xss.length c) (.slice B yss.length d) 24
  have hz0 := hall.size
  have M0 := MktAt.new h g (c := c) (d := d) 24
  have h0 := M0.men
  have g0 := M0.women
  have c0 := M0.c0
  have c1 := M0.c1
  cases hq : marketOk xss yss
  · rw [fmtMarket_no hq]
    go_enter Tryd.func12, Tryd.ntmps12
    go_wp2_with fail
    (with_reducible refine (specMarketOk _ _ _ _ _ _ _ _ _ h0 hn HX.out g0 hm HY.out).mono ?_)
    rintro e w1 ⟨rfl, hb⟩
    rw [hq]
    have hfin := hall.trans (hb.mono hz0)
    clear h0 g0 c0 c1 hb
    go_wp2
    go_ret
    exact ⟨rfl, hfin⟩
  rw [fmtMarket_yes hq]
  have F := Lib.hid (market_facts hq)
  have f1 := F.out.hi
  have f2 := Nat.le_of_eq F.out.wl
  have f3 := Nat.le_of_eq F.out.wl.symm
  have HQ := Lib.hid hq
  clear hq
  go_enter Tryd.func12, Tryd.ntmps12
  go_wp2_with fail
  (with_reducible refine (specMarketOk _ _ _ _ _ _ _ _ _ h0 hn HX.out g0 hm HY.out).mono ?_)
  rintro e w1 ⟨rfl, hb⟩
  rw [HQ.out]
  have M1 := M0.below hb
  have hb1 := hall.trans (hb.mono hz0)
  have z1 := hb1.size
  clear h0 g0 c0 c1 hb M0 hall
  have oe := OwnS.empty w1 (lo := w1.heap.size) (Nat.le_refl _)
  have be := (Below.refl w1.heap.size w1).alloc (Nat.le_refl _) (.cells #[] 9)
  have c0 := M1.c0
  have c0e := cell_carry be M1.c0
  go_wp2
  clear c0 c0e
  go_loopw [3, 5, 15] (fun v _ i_ wr => ∃ (k : Nat) (A' : Option Addr) (c' : Nat), k ≤ xss.length ∧ i_ = .int .i64 k ∧ v = .slice A' k c' ∧ OwnS wr w1.heap.size (.slice A' k c') ((wordsA xss k).map strOfNums) ∧ Below w1.heap.size w1 wr) (fun _ _ i_ _ => xss.length - (intOf i_).toNat)
  case atStart => exact ⟨0, _, 0, Nat.zero_le _, rfl, rfl, oe, be⟩
  case round =>
    obtain ⟨k, A1, c1_, hk, rfl, rfl, hown, hb⟩ := hrel
    have zr := hb.size
    by_cases hlt : k < xss.length
    · obtain ⟨b, o, A', c', rfl, _, hck, hcc, hin⟩ := (M1.below hb).men.at_ hlt
      go_wp2_with fail
      (with_reducible refine (specFormatRanking _ _ _ _ _ hin hcc (F.out.mr k hlt)).mono ?_)
      rintro e w3 ⟨rfl, hb3⟩
      have hbn := hb.trans (hb3.mono zr)
      have zn := hbn.size
      have hown2 := hown.belowW hb3
      have HS := Lib.hid (wordsA_step hlt)
      clear hb3 hb hown hck hin
      generalize strOfNums (rankNums (rx xss k)) = t at *
      go_wp2_with (at_builtin; refine wpList_append_str _ rfl _ _ rfl w1.heap.size k _ _ _ rfl (hown2.belowW ((Below.refl _ _).alloc (Nat.le_refl _) _)) t _ 1 rfl (new_cell _ _ _ rfl) (by omega) (by simp; omega) ?_)
      intro A3 c3 w4 o3 hgr
      rw [← HS.out] at o3
      have hb4 := (hbn.alloc zn (.cells #[.string t] 9)).grown hgr (by simp; omega) (fun j e => (World.ownsRow.lt hown2 j e).1)
      clear hgr hown2 hbn
      go_wp2
      go_roundw
      case rel => exact ⟨k + 1, _, _, by omega, by go_num, rfl, o3, hb4⟩
      case measure => simp [intOf]; omega
    · obtain rfl : k = xss.length := by omega
      have M2 := M1.below hb
      have c1w := M2.c1
      have ha := (Below.refl wr.heap.size wr).alloc (Nat.le_refl _) (.cells #[.string { data := #[124] }] 9)
      go_wp2_with (at_builtin; refine wpList_append_str _ rfl _ _ rfl w1.heap.size xss.length _ _ _ rfl (hown.belowW ha) { data := #[124] } _ 1 rfl (new_cell _ _ _ rfl) (by omega) (by simp; omega) ?_)
      intro A3 c3 w4 o3 hgr
      have hb4 := (hb.alloc zr (.cells #[.string { data := #[124] }] 9)).grown hgr (by simp; omega) (fun j e => (World.ownsRow.lt hown j e).1)
      have e0 : (wordsA xss xss.length).map strOfNums ++ [({ data := #[124] } : ByteArray)] = (wordsB xss yss 0).map strOfNums := by
        unfold wordsA wordsB; rw [List.take_length]; simp; rfl
      rw [e0] at o3
      have M3 := M1.below hb4
      have c14 := M3.c1
      clear hgr hown hb c1w e0
      go_wp2
      clear c14
      go_loopw [3, 7, 31] (fun v _ i_ wr => ∃ (k : Nat) (A' : Option Addr) (c' : Nat), k ≤ yss.length ∧ i_ = .int .i64 k ∧ v = .slice A' (xss.length + 1 + k) c' ∧ OwnS wr w1.heap.size (.slice A' (xss.length + 1 + k) c') ((wordsB xss yss k).map strOfNums) ∧ Below w1.heap.size w1 wr) (fun _ _ i_ _ => yss.length - (intOf i_).toNat)
      case atStart => exact ⟨0, _, _, Nat.zero_le _, rfl, rfl, o3, hb4⟩
      case round =>
        obtain ⟨k, A1, c1_, hk, rfl, rfl, hown, hb⟩ := hrel
        have zr := hb.size
        by_cases hlt : k < yss.length
        · obtain ⟨b, o, A', c', rfl, _, hck, hcc, hin⟩ := (M1.below hb).women.at_ hlt
          go_wp2_with fail
          (with_reducible refine (specFormatRanking _ _ _ _ _ hin hcc (F.out.wr k (by omega))).mono ?_)
          rintro e w3 ⟨rfl, hb3⟩
          have hbn := hb.trans (hb3.mono zr)
          have zn := hbn.size
          have hown2 := hown.belowW hb3
          have HS := Lib.hid (wordsB_step (xss := xss) hlt)
          clear hb3 hb hown hck hin
          generalize strOfNums (rankNums (rx yss k)) = t at *
          go_wp2_with (at_builtin; refine wpList_append_str _ rfl _ _ rfl w1.heap.size (xss.length + 1 + k) _ _ _ rfl (hown2.belowW ((Below.refl _ _).alloc (Nat.le_refl _) _)) t _ 1 rfl (new_cell _ _ _ rfl) (by omega) (by simp; omega) ?_)
          intro A3 c3 w4 o3 hgr
          rw [← HS.out] at o3
          have hb4 := (hbn.alloc zn (.cells #[.string t] 9)).grown hgr (by simp; omega) (fun j e => (World.ownsRow.lt hown2 j e).1)
          clear hgr hown2 hbn
          go_wp2
          go_roundw
          case rel => exact ⟨k + 1, _, _, by omega, by go_num, rfl, o3, hb4⟩
          case measure => simp [intOf]; omega
        · obtain rfl : k = yss.length := by omega
          have e9 : wordsB xss yss yss.length = wordsM xss yss := by unfold wordsB wordsM; rw [List.take_length]
          rw [e9] at hown
          have hbe := hb1.trans (hb.mono z1)
          have zz := hbe.size
          go_wp2_with fail
          (with_reducible refine (specJoin_any _ _ _ (wordsM xss yss) _ hown.slice.2.2 (by simp [wordsM]; omega) (words_short F.out)).mono ?_)
          rintro e w9 ⟨rfl, rfl⟩
          go_wp2
          go_ret
          exact ⟨rfl, hbe⟩
end Go.Proofs.YtnoanomihifobaaDoor
