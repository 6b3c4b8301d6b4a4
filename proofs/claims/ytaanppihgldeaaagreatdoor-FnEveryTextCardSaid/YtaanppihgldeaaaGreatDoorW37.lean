/- The text of a profile: both sides. What a profile's text is, and that it is read back: plain lists. No program is walked here. The reference reads a vote. -/
import Derived.Test.YtaanppihgldeaaaGreatDoorW36
import Derived.Test.YtaanppihgldeaaaGreatDoorW10
namespace Go.Proofs.YtaanppihgldeaaaGreatDoor
set_option linter.unusedSimpArgs false
set_option linter.unusedVariables false
set_option linter.unusedVariables false
open Go.RowKit

section
variable {ops : Array Oper} {o : Oper} {a : Act} {Q : Exit → Act → World → Prop}
theorem step_append_str {K : Act → World → Prop} {E : Prop} (w : World) (hgd : o.guard = none) (s x : Operand) (hop : o.op = Op.call { callee := Callee.builtin Builtin.append, args := #[s, x], argTypes := #[45, 45] })
    (lo n c : Nat) (A : Option Addr) (ts : List ByteArray) (hs : a.eval s = .slice A n c) (hown : OwnS w lo (.slice A n c) ts)
    (y : ByteArray) (b cc : Nat) (hx : a.eval x = .slice (some ⟨b, 0, none⟩) 1 cc) (hcell : w.cell? ⟨b, 0, none⟩ = some (.string y)) (hn : n ≤ 1048576) (hbase : lo ≤ w.heap.size)
    (hK : ∀ A' c' w', OwnS w' lo (.slice A' (n + 1) c') (ts ++ [y]) → w.grownBy w' (Value.slice A n c).ownBlock → K (a.put o.dst (.slice A' (n + 1) c')) w') :
    if Region.wanted o (yielded ops a.tmps) = true then Oper.wp Tryz.prog o a w K Q else E := by
  have hw : Region.wanted o (yielded ops a.tmps) = true := by simp [Region.wanted, hgd]
  rw [if_pos hw]
  obtain ⟨i0, hi0, hz0, hz1, hz2⟩ := info_parts infoS
  obtain rfl := hown.slice.1
  obtain ⟨v', w', hr, hown', hgrow, _, hat⟩ := run_append_own_at (P := Tryz.prog) w lo 45 o.type 9 i0 (.string ⟨#[]⟩) 1 16 Tryz.underlying45 hi0 hz0 hz1 hz2 rfl (by decide) _ ts.length _ hown ⟨b, 0, none⟩ 1 cc [.string y] rfl
    (fun j u hj => by
      match j, hj with
      | 0, hj => simp at hj; subst hj; simpa [Addr.add] using hcell) (fun u hu => by simp at hu; subst hu; rfl) (by unfold maxLen; omega) (by omega) hbase
  have h2 : OwnS w' lo v' (ts ++ [y]) := by
    unfold OwnS
    rw [List.map_append, List.length_append]
    exact hown'
  obtain ⟨A', c', e, _⟩ := h2.form
  rw [List.length_append] at e
  subst e
  unfold Oper.wp execOp
  simp only [hop, resolve, invoke, builtin, Sem.run_bind, Sem.run_pure, Result.andThen_ok, List.map_toArray, List.map_cons, List.map_nil, hs, hx, hr]
  exact hK A' c' w' h2 hgrow
end
theorem words_take {vs : List Vt} {k : Nat} (h : k < vs.length) : ((vs.take k).map wordN).map strOfNums ++ [strOfNums (wordN (vx vs k))] = ((vs.take (k + 1)).map wordN).map strOfNums := by
  rw [take_vx h]; simp
theorem word_parts (v : Vt) : strOfNums (decN v.c.toNat) ++ ({ data := #[42] } : ByteArray) ++ strOfNums (rankNums v.r) = strOfNums (wordN v) := by
  have e : ({ data := #[42] } : ByteArray) = strOfNums [42] := rfl
  rw [e, str_append, str_append]; rfl
theorem fmtN_words {m : Int} {vs : List Vt} (h : 0 < vs.length) : fmtN m vs = joinN (vs.map wordN) := by
  cases vs with
  | nil => simp at h
  | cons v vs => rfl
theorem fmtN_nil (m : Int) : ({ data := #[45] } : ByteArray) ++ strOfNums (decN m.toNat) = strOfNums (fmtN m []) := by
  have e : ({ data := #[45] } : ByteArray) = strOfNums [45] := rfl
  rw [e, str_append]; rfl
theorem words_short {m : Int} {vs : List Vt} (h : ∀ v ∈ vs, voteOk m v = true) : ∀ x ∈ vs.map wordN, x.length ≤ 10 := by
  intro x hx
  obtain ⟨v, hv, rfl⟩ := List.mem_map.1 hx
  exact wordN_len (h v hv)
theorem implFormatInt_at (n : Int) (w : World) (h0 : 0 ≤ n) (h1 : n ≤ 9223372036854775807) (G : Glob w) :
    Calls Tryz.prog 39 #[.int .i64 n] w fun e w' => e = .returned (.string (strOfNums (decN n.toNat))) ∧ Below w.heap.size w w' := by
  refine (implFormatInt n w (by omega) h1 G).mono ?_
  rintro e w' ⟨s, rfl, hd, hb⟩
  exact ⟨by rw [hd h0], hb⟩
theorem specFormatInt_at (n : Int) (w : World) (h0 : 0 ≤ n) (h1 : n ≤ 9223372036854775807) :
    Calls Tryz.prog 46 #[.int .i64 n] w fun e w' => e = .returned (.string (strOfNums (decN n.toNat))) ∧ Below w.heap.size w w' := by
  refine (specFormatInt n w (by omega) h1).mono ?_
  rintro e w' ⟨s, rfl, hd, hb⟩
  exact ⟨by rw [hd h0], hb⟩
set_option maxRecDepth 100000 in
set_option maxHeartbeats 4000000 in
theorem implFormatProfile (m : Int) (A : Option Addr) (n c : Nat) (vs : List Vt) (w : World) (h : VotesAt w A n vs) (hok : profOk m vs = true) (G : Glob w) :
    Calls Tryz.prog 41 #[.agg #[.int .i64 m, .slice A n c]] w fun e w' => e = .returned (.string (strOfNums (fmtN m vs))) ∧ Below w.heap.size w w' := by
  obtain ⟨m1, m5, hn24, hall⟩ := prof_ok hok
  obtain rfl := h.len
  have hB := alloc_below w (.cells #[.int .i64 m, .slice A vs.length c] 24)
  obtain ⟨x0, x1⟩ := PBox.new w m A vs.length c 24 rfl
  replace h := h.below hB
  generalize hw0 : w.alloc (.cells #[.int .i64 m, .slice A vs.length c] 24) = w0 at *
  replace G := G.below hB
  have HALL := Lib.hid hall
  have HOK := Lib.hid hok
  have HX := Lib.hid (fun (v : Vt) hv => (by have := rank_len5 (vote_ok (hall v hv)).1; omega : v.r.length ≤ 1048576))
  clear hall hok
  have K := Lib.hid (implProfileOk m A vs.length c vs w0 h (by omega) HX.out)

  go_enter Tryz.func41, Tryz.ntmps41
  go_wp2_with fail
  (with_reducible refine K.out.mono ?_)
  rintro e w1 ⟨rfl, hb1⟩
  rw [HOK.out]
  replace x0 := cell_carry hb1 x0
  replace x1 := cell_carry hb1 x1
  replace h := h.below hb1
  replace hB := hB.trans (hb1.mono hB.size)
  replace G := G.below hb1
  clear K hb1 hw0
  rcases Nat.eq_zero_or_pos vs.length with h0 | h0
  · have hl0 : (vs.length : Int) = 0 := by omega
    have HF := Lib.hid (fmtN_nil m)
    have HE : Hid (vs = []) := List.eq_nil_of_length_eq_zero h0
    have hd := decN_len (show m.toNat ≤ 1000 by omega)
    have hz : ({ data := #[45] } : ByteArray).size + (strOfNums (decN m.toNat)).size ≤ 9223372036854775807 := by rw [strOfNums_size]; have e : ({ data := #[45] } : ByteArray).size = 1 := rfl; omega
    have KF := Lib.hid (implFormatInt_at m w1 (by omega) (by omega) G)
    generalize strOfNums (decN m.toNat) = D at *
    clear hd
    go_wp2_with fail
    (with_reducible refine KF.out.mono ?_)
    rintro e w2 ⟨rfl, hb2⟩
    have hfin := hB.trans (hb2.mono hB.size)
    clear KF hb2
    go_wp2
    go_ret
    exact ⟨by rw [HE.out, ← HF.out]; rfl, hfin⟩
  have hl0 : ((vs.length : Int) == 0) = false := by rw [beq_eq_false_iff_ne]; omega
  go_wp2
  go_loopw [3, 5, 20] (fun v _ i_ wr => ∃ (k : Nat) (A' : Option Addr) (c' : Nat), k ≤ vs.length ∧ i_ = .int .i64 k ∧ v = .slice A' k c' ∧ OwnS wr w1.heap.size (.slice A' k c') (((vs.take k).map wordN).map strOfNums) ∧ Below w1.heap.size w1 wr) (fun _ _ i_ _ => vs.length - (intOf i_).toNat)
  case atStart => exact ⟨0, _, _, Nat.zero_le _, rfl, rfl, OwnS.nil _ _, Below.refl _ _⟩
  case round =>
    obtain ⟨k, A1, c1, hk, rfl, rfl, hown, hb⟩ := hrel
    have zr := hb.size
    by_cases hlt : k < vs.length
    · obtain ⟨b, o, A', c', rfl, hbl, hc1, hc2, hcc, hin⟩ := (h.below hb).at_ hlt
      have HT := Lib.hid (words_take hlt)
      have hv := vote_ok (HALL.out _ (vx_mem hlt))
      have hvl := rank_len5 hv.1
      have hrk : rankOk ((vx vs k).r.length : Int) (vx vs k).r = true := by rw [(rankOk_facts hv.1).2.2.1]; exact hv.1
      have HP := Lib.hid (word_parts (vx vs k))
      generalize vx vs k = v at *
      have b1 := alloc_below wr (.cells #[.slice A' v.r.length c', .int .i64 v.c] 44)
      obtain ⟨y0, y1⟩ := new_pair wr (.slice A' v.r.length c') (.int .i64 v.c) 44 rfl
      have hin2 := hin.below b1
      have hown2 := hown.belowW b1
      have hb2 := hb.trans (b1.mono zr)
      have GL := G.below hb2
      have zr2 : (wr.alloc (.cells #[.slice A' v.r.length c', .int .i64 v.c] 44)).heap.size = wr.heap.size + 1 := by simp
      clear hin hown b1 hb
      go_upto_region 9 with fail
      generalize wr.alloc (.cells #[.slice A' v.r.length c', .int .i64 v.c] 44) = w4 at *
      have hd := decN_len (show v.c.toNat ≤ 1000 by omega)
      have z1 : (strOfNums (decN v.c.toNat)).size ≤ 4 := by rw [strOfNums_size]; exact hd
      have z2 : (strOfNums (rankNums v.r)).size ≤ 5 := by rw [strOfNums_size]; simpa [rankNums] using hvl
      have KI := Lib.hid (fun W (hW : Below w4.heap.size w4 W) => implFormatInt_at v.c W (by omega) (by omega) (GL.below hW))
      have KR := Lib.hid (fun W (hW : Below w4.heap.size w4 W) => implFormatRanking A' v.r.length c' v.r W (hin2.below hW) hcc hrk)
      have HPV := Lib.hid hv
      clear hd hv hvl hrk
      generalize strOfNums (decN v.c.toNat) = D at *
      generalize strOfNums (rankNums v.r) = R at *
      have hz1 : ¬ (9223372036854775807 < D.size + 1) := by omega
      have hz2 : ¬ (9223372036854775807 < D.size + 1 + R.size) := by omega
      have hbw := (Below.refl w4.heap.size w4).drew
      have y0d : w4.drew.cell? ⟨wr.heap.size, 0, none⟩ = some (.slice A' v.r.length c') := y0
      have y1d : w4.drew.cell? ⟨wr.heap.size, 1, none⟩ = some (.int .i64 v.c) := y1
      have hownd : OwnS w4.drew w1.heap.size (.slice A1 k c1) (((vs.take k).map wordN).map strOfNums) := hown2
      clear hown2 hin2
      go_region_law (first
        | (refine step_append_str _ (by rfl) _ _ (by rfl) w1.heap.size k c1 A1 _ (by rfl) (hownd.belowW (alloc_below _ _)) (D ++ ({ data := #[42] } : ByteArray) ++ R) _ 1 (by rfl) (new_cell _ _ _ rfl) (by omega) (by have := hbw.size; have := hb2.size; simp; omega) ?_; intro A9 c9 w9 ho9 hg9; have hb9 := ((hb2.trans (hbw.mono hb2.size)).alloc (by have := hbw.size; have := hb2.size; omega) (.cells #[.string (D ++ ({ data := #[42] } : ByteArray) ++ R)] 9)).grown hg9 (by have := hbw.size; have := hb2.size; simp; omega) (fun j e => (World.ownsRow.lt hownd j e).1))
        | (go_simp; go_at_call 39; have KK := KI.out _ hbw; (with_reducible refine KK.mono ?_); rintro er w7 ⟨rfl, b7⟩; have y0d := cell_carry b7 y0d; have y1d := cell_carry b7 y1d; have hownd := hownd.belowW b7; have hbw := hbw.trans (b7.mono hbw.size))
        | (go_simp; go_at_call 88; have KK := KR.out _ hbw; (with_reducible refine KK.mono ?_); rintro er w8 ⟨rfl, b8⟩; have y0d := cell_carry b8 y0d; have y1d := cell_carry b8 y1d; have hownd := hownd.belowW b8; have hbw := hbw.trans (b8.mono hbw.size)))
      all_goals
        rw [HP.out, HT.out] at ho9
        clear hownd hbw
        go_wp2
        go_roundw
        case rel => exact ⟨k + 1, A9, c9, by omega, by go_num, rfl, ho9, hb9⟩
        case measure => simp [intOf]; omega
    · obtain rfl : k = vs.length := by omega
      rw [List.take_length] at hown
      have HF := Lib.hid (fmtN_words (m := m) h0)
      have KJ := Lib.hid (implJoin_any _ _ _ (vs.map wordN) _ (own0 hown) (by rw [List.length_map]; omega) h0 (words_short HALL.out))
      have hbe := hB.trans (hb.mono hB.size)
      go_wp2_with fail
      (with_reducible refine KJ.out.mono ?_)
      rintro e w9 ⟨rfl, hb9⟩
      have hfin := hbe.trans (hb9.mono hbe.size)
      go_wp2
      go_ret
      exact ⟨by rw [HF.out]; rfl, hfin⟩
set_option maxRecDepth 100000 in
set_option maxHeartbeats 4000000 in
theorem specFormatProfile (m : Int) (A : Option Addr) (n c : Nat) (vs : List Vt) (w : World) (h : VotesAt w A n vs) (hok : profOk m vs = true) :
    Calls Tryz.prog 24 #[.agg #[.int .i64 m, .slice A n c]] w fun e w' => e = .returned (.string (strOfNums (fmtN m vs))) ∧ Below w.heap.size w w' := by
  obtain ⟨m1, m5, hn24, hall⟩ := prof_ok hok
  obtain rfl := h.len
  have hB := alloc_below w (.cells #[.int .i64 m, .slice A vs.length c] 24)
  obtain ⟨x0, x1⟩ := PBox.new w m A vs.length c 24 rfl
  replace h := h.below hB
  generalize hw0 : w.alloc (.cells #[.int .i64 m, .slice A vs.length c] 24) = w0 at *
  have HALL := Lib.hid hall
  have HOK := Lib.hid hok
  have HX := Lib.hid (fun (v : Vt) hv => (by have := rank_len5 (vote_ok (hall v hv)).1; omega : v.r.length ≤ 1048576))
  clear hall hok
  have K := Lib.hid (specProfileOk m A vs.length c vs w0 h (by omega) HX.out)

  go_enter Tryz.func24, Tryz.ntmps24
  go_wp2_with fail
  (with_reducible refine K.out.mono ?_)
  rintro e w1 ⟨rfl, hb1⟩
  rw [HOK.out]
  replace x0 := cell_carry hb1 x0
  replace x1 := cell_carry hb1 x1
  replace h := h.below hb1
  replace hB := hB.trans (hb1.mono hB.size)
  clear K hb1 hw0
  have oe := OwnS.empty w1 (lo := w1.heap.size) (Nat.le_refl _)
  have be := (Below.refl w1.heap.size w1).alloc (Nat.le_refl _) (.cells #[] 9)
  have x1e := cell_carry be x1
  go_wp2
  clear x1e
  go_loopw [3, 5, 13] (fun v _ i_ wr => ∃ (k : Nat) (A' : Option Addr) (c' : Nat), k ≤ vs.length ∧ i_ = .int .i64 k ∧ v = .slice A' k c' ∧ OwnS wr w1.heap.size (.slice A' k c') (((vs.take k).map wordN).map strOfNums) ∧ Below w1.heap.size w1 wr) (fun _ _ i_ _ => vs.length - (intOf i_).toNat)
  case atStart => exact ⟨0, _, _, Nat.zero_le _, rfl, rfl, oe, be⟩
  case round =>
    obtain ⟨k, A1, c1, hk, rfl, rfl, hown, hb⟩ := hrel
    have zr := hb.size
    by_cases hlt : k < vs.length
    · obtain ⟨b, o, A', c', rfl, hbl, hc1, hc2, hcc, hin⟩ := (h.below hb).at_ hlt
      have HT := Lib.hid (words_take hlt)
      have hv := vote_ok (HALL.out _ (vx_mem hlt))
      have hvl := rank_len5 hv.1
      have hrk : rankOk ((vx vs k).r.length : Int) (vx vs k).r = true := by rw [(rankOk_facts hv.1).2.2.1]; exact hv.1
      have HP := Lib.hid (word_parts (vx vs k))
      generalize vx vs k = v at *
      have b1 := alloc_below wr (.cells #[.slice A' v.r.length c', .int .i64 v.c] 44)
      obtain ⟨y0, y1⟩ := new_pair wr (.slice A' v.r.length c') (.int .i64 v.c) 44 rfl
      have hin2 := hin.below b1
      have hown2 := hown.belowW b1
      have hb2 := hb.trans (b1.mono zr)
      have zr2 : (wr.alloc (.cells #[.slice A' v.r.length c', .int .i64 v.c] 44)).heap.size = wr.heap.size + 1 := by simp
      clear hin hown b1 hb
      go_upto_region 7 with fail
      generalize wr.alloc (.cells #[.slice A' v.r.length c', .int .i64 v.c] 44) = w4 at *
      have hd := decN_len (show v.c.toNat ≤ 1000 by omega)
      have z1 : (strOfNums (decN v.c.toNat)).size ≤ 4 := by rw [strOfNums_size]; exact hd
      have z2 : (strOfNums (rankNums v.r)).size ≤ 5 := by rw [strOfNums_size]; simpa [rankNums] using hvl
      have KI := Lib.hid (fun W (hW : Below w4.heap.size w4 W) => specFormatInt_at v.c W (by omega) (by omega))
      have KR := Lib.hid (fun W (hW : Below w4.heap.size w4 W) => specFormatRanking A' v.r.length c' v.r W (hin2.below hW) hcc hrk)
      have HPV := Lib.hid hv
      clear hd hv hvl hrk
      generalize strOfNums (decN v.c.toNat) = D at *
      generalize strOfNums (rankNums v.r) = R at *
      have hz1 : ¬ (9223372036854775807 < D.size + 1) := by omega
      have hz2 : ¬ (9223372036854775807 < D.size + 1 + R.size) := by omega
      have hbw := (Below.refl w4.heap.size w4).drew
      have y0d : w4.drew.cell? ⟨wr.heap.size, 0, none⟩ = some (.slice A' v.r.length c') := y0
      have y1d : w4.drew.cell? ⟨wr.heap.size, 1, none⟩ = some (.int .i64 v.c) := y1
      have hownd : OwnS w4.drew w1.heap.size (.slice A1 k c1) (((vs.take k).map wordN).map strOfNums) := hown2
      clear hown2 hin2
      go_region_law (first
        | (refine step_append_str _ (by rfl) _ _ (by rfl) w1.heap.size k c1 A1 _ (by rfl) (hownd.belowW (alloc_below _ _)) (D ++ ({ data := #[42] } : ByteArray) ++ R) _ 1 (by rfl) (new_cell _ _ _ rfl) (by omega) (by have := hbw.size; have := hb2.size; simp; omega) ?_; intro A9 c9 w9 ho9 hg9; have hb9 := ((hb2.trans (hbw.mono hb2.size)).alloc (by have := hbw.size; have := hb2.size; omega) (.cells #[.string (D ++ ({ data := #[42] } : ByteArray) ++ R)] 9)).grown hg9 (by have := hbw.size; have := hb2.size; simp; omega) (fun j e => (World.ownsRow.lt hownd j e).1))
        | (go_simp; go_at_call 46; have KK := KI.out _ hbw; (with_reducible refine KK.mono ?_); rintro er w7 ⟨rfl, b7⟩; have y0d := cell_carry b7 y0d; have y1d := cell_carry b7 y1d; have hownd := hownd.belowW b7; have hbw := hbw.trans (b7.mono hbw.size))
        | (go_simp; go_at_call 50; have KK := KR.out _ hbw; (with_reducible refine KK.mono ?_); rintro er w8 ⟨rfl, b8⟩; have y0d := cell_carry b8 y0d; have y1d := cell_carry b8 y1d; have hownd := hownd.belowW b8; have hbw := hbw.trans (b8.mono hbw.size)))
      all_goals
        rw [HP.out, HT.out] at ho9
        clear hownd hbw
        go_wp2
        go_roundw
        case rel => exact ⟨k + 1, A9, c9, by omega, by go_num, rfl, ho9, hb9⟩
        case measure => simp [intOf]; omega
    · obtain rfl : k = vs.length := by omega
      rw [List.take_length] at hown
      have x0w := cell_carry hb x0
      rcases Nat.eq_zero_or_pos vs.length with h0 | h0
      · have hbe := hB.trans (hb.mono hB.size)
        have hl0b : ((vs.length : Int) == 0) = true := by rw [beq_iff_eq]; omega
        have hl0 : (vs.length : Int) = 0 := by omega
        have HF := Lib.hid (fmtN_nil m)
        have HE : Hid (vs = []) := List.eq_nil_of_length_eq_zero h0
        have hd := decN_len (show m.toNat ≤ 1000 by omega)
        have hz : ({ data := #[45] } : ByteArray).size + (strOfNums (decN m.toNat)).size ≤ 9223372036854775807 := by rw [strOfNums_size]; have e : ({ data := #[45] } : ByteArray).size = 1 := rfl; omega
        have KF := Lib.hid (specFormatInt_at m wr (by omega) (by omega))
        generalize strOfNums (decN m.toNat) = D at *
        clear hd
        go_wp2_with fail
        (with_reducible refine KF.out.mono ?_)
        rintro e w2 ⟨rfl, hb2⟩
        have hfin := hbe.trans (hb2.mono hbe.size)
        clear KF hb2
        go_wp2
        go_ret
        exact ⟨by rw [HE.out, ← HF.out]; rfl, hfin⟩
      · have HF := Lib.hid (fmtN_words (m := m) h0)
        have KJ := Lib.hid (specJoin_any A1 vs.length c1 (vs.map wordN) _ hown.slice.2.2 (by rw [List.length_map]; omega) (words_short HALL.out))
        have hl0 : ¬ ((vs.length : Int) = 0) := by omega
        have hl0b : ((vs.length : Int) == 0) = false := by rw [beq_eq_false_iff_ne]; omega
        have hbe := hB.trans (hb.mono hB.size)
        go_wp2_with fail
        (with_reducible refine KJ.out.mono ?_)
        rintro e w9 ⟨rfl, rfl⟩
        have hfin := hbe
        go_wp2
        go_ret
        exact ⟨by rw [HF.out]; rfl, hfin⟩
end Go.Proofs.YtaanppihgldeaaaGreatDoor
namespace Go.Proofs.YtaanppihgldeaaaGreatDoor
set_option linter.unusedSimpArgs false
set_option linter.unusedVariables false
set_option linter.unusedVariables false
open Go.RowKit

def byteL (l : List Int) : List UInt8 := l.map fun n => UInt8.ofNat n.toNat
theorem byteL_append (a b : List Int) : byteL (a ++ b) = byteL a ++ byteL b := List.map_append
theorem strOf_byteL (l : List Int) : (strOfNums l).data.toList = byteL l := strOfNums_data l
theorem byteL_dec (n : Nat) : byteL (decN n) = Lib.decDigits n := byte_back _
theorem str_ext {a b : ByteArray} (h : a.data.toList = b.data.toList) : a = b := ByteArray.ext (Array.ext' h)
theorem dec_no {n : Nat} {c : UInt8} (hc : c.toNat < 48) : ∀ x ∈ Lib.decDigits n, x ≠ c := by
  intro x hx e
  have := dec_digits n x hx
  subst e
  omega
theorem rank_bytes {m : Int} {r : List Int} (h : rankOk m r = true) : ∀ x ∈ byteL (rankNums r), 97 ≤ x.toNat ∧ x.toNat ≤ 102 := by
  intro x hx
  have F := rankOk_facts h
  unfold byteL rankNums at hx
  rw [List.map_map] at hx
  obtain ⟨y, hy, rfl⟩ := List.mem_map.1 hx
  obtain ⟨i, hi, rfl⟩ := List.getElem_of_mem hy
  have := F.2.2.2 i hi
  rw [ix_lt hi] at this
  simp only [Function.comp_apply, UInt8.toNat_ofNat']
  omega
theorem rank_no {m : Int} {r : List Int} (h : rankOk m r = true) {c : UInt8} (hc : c.toNat < 97) : ∀ x ∈ byteL (rankNums r), x ≠ c := by
  intro x hx e
  have := rank_bytes h x hx
  subst e
  omega
theorem lsR_back {m : Int} {r : List Int} (h : rankOk m r = true) : lsR (byteL (rankNums r)) = r := by
  have F := rankOk_facts h
  unfold lsR byteL rankNums
  rw [List.map_map, List.map_map]
  conv => rhs; rw [← List.map_id r]
  apply List.map_congr_left
  intro y hy
  obtain ⟨i, hi, rfl⟩ := List.getElem_of_mem hy
  have := F.2.2.2 i hi
  rw [ix_lt hi] at this
  simp only [Function.comp_apply, UInt8.toNat_ofNat', id]
  omega
theorem parR_back {m : Int} {r : List Int} (h : rankOk m r = true) : parR (byteL (rankNums r)) = r ∧ okR (byteL (rankNums r)) = true := by
  have hl := (rankOk_facts h).2.2.1
  have hk : okR (byteL (rankNums r)) = true := by
    unfold okR
    rw [lsR_back h]
    have : (byteL (rankNums r)).length = r.length := by simp [byteL, rankNums]
    rw [this, hl]; exact h
  exact ⟨by rw [parR_yes hk, lsR_back h], hk⟩
/-- a vote's word, cut at its star -/
theorem word_bytes (v : Vt) : byteL (wordN v) = Lib.decDigits v.c.toNat ++ 42 :: byteL (rankNums v.r) := by
  unfold wordN
  rw [byteL_append, byteL_append, byteL_dec]
  simp [byteL]
theorem word_split {m : Int} {v : Vt} (h : voteOk m v = true) : spC 42 [] (byteL (wordN v)) = [Lib.decDigits v.c.toNat, byteL (rankNums v.r)] := by
  rw [word_bytes, spC_hit _ (dec_no (by decide)), spC_none (rank_no (vote_ok h).1 (by decide))]
  rfl
theorem word_no {m : Int} {v : Vt} (h : voteOk m v = true) : ∀ x ∈ byteL (wordN v), x ≠ 32 := by
  intro x hx
  rw [word_bytes] at hx
  rcases List.mem_append.1 hx with hx | hx
  · exact dec_no (by decide) x hx
  · rcases List.mem_cons.1 hx with rfl | hx
    · decide
    · exact rank_no (vote_ok h).1 (by decide) x hx
/-- a valid profile's text, cut at its blanks -/
theorem text_split {m : Int} {vs : List Vt} (h : profOk m vs = true) (h0 : 0 < vs.length) : spC 32 [] (byteL (fmtN m vs)) = vs.map fun v => byteL (wordN v) := by
  have P := prof_ok h
  rw [fmtN_words h0]
  cases vs with
  | nil => simp at h0
  | cons v r =>
    have e : byteL (joinN ((v :: r).map wordN)) = byteL (wordN v) ++ ((r.map fun v => byteL (wordN v)).map ([32] ++ ·)).flatten := by
      simp only [byteL, joinN, List.map_cons, List.map_append, List.map_flatten, List.map_map]
      congr 1
    rw [e, spC_join _ _ (word_no (P.2.2.2 v (by simp))) ?_]
    · rfl
    · intro w hw
      obtain ⟨u, hu, rfl⟩ := List.mem_map.1 hw
      exact word_no (P.2.2.2 u (by simp [hu]))
theorem text_head {m : Int} {vs : List Vt} (h : profOk m vs = true) (h0 : 0 < vs.length) : ∃ x l, byteL (fmtN m vs) = x :: l ∧ x ≠ 45 := by
  rw [fmtN_words h0]
  cases vs with
  | nil => simp at h0
  | cons v r =>
    have hd := dec_digits v.c.toNat
    obtain ⟨x, l, e⟩ : ∃ x l, Lib.decDigits v.c.toNat = x :: l := by
      cases e : Lib.decDigits v.c.toNat with
      | nil => exact absurd e (dec_ne _)
      | cons x l => exact ⟨x, l, rfl⟩
    have e2 : byteL (joinN ((v :: r).map wordN)) = byteL (wordN v) ++ byteL ((r.map wordN).map ([32] ++ ·)).flatten := by
      simp only [joinN, List.map_cons]; rw [byteL_append]
    refine ⟨x, _, by rw [e2, word_bytes, e]; rfl, ?_⟩
    intro e3
    have := hd x (by rw [e]; simp)
    rw [e3] at this
    revert this; decide
/-- the text is that of a valid profile -/
def IsProf (a : ByteArray) : Prop := ∃ m vs, profOk m vs = true ∧ a = strOfNums (fmtN m vs)
/-- the words of a text -/
def wordsT (a : ByteArray) : List ByteArray := (spC 32 [] a.data.toList).map fun l => ⟨l.toArray⟩
/-- the votes us are those that the first words of a valid profile's text tell -/
def ReadTo (a : ByteArray) (us : List Vt) : Prop := ∀ m vs, profOk m vs = true → 0 < vs.length → a = strOfNums (fmtN m vs) → us = vs.take us.length
/-- word t was read as v -/
def ReadOne (t : ByteArray) (v : Vt) : Prop := ∀ m u, voteOk m u = true → t = strOfNums (wordN u) → v = u
theorem words_of {m : Int} {vs : List Vt} {a : ByteArray} (h : profOk m vs = true) (h0 : 0 < vs.length) (e : a = strOfNums (fmtN m vs)) : wordsT a = vs.map fun v => strOfNums (wordN v) := by
  unfold wordsT
  rw [e, strOf_byteL, text_split h h0, List.map_map]
  exact List.map_congr_left fun v _ => by
    apply str_ext
    rw [strOf_byteL]; rfl
theorem ReadTo.nil (a : ByteArray) : ReadTo a [] := fun _ _ _ _ _ => rfl
theorem ReadTo.snoc {a : ByteArray} {us : List Vt} {v : Vt} (h : ReadTo a us) (hk : us.length < (wordsT a).length) (h1 : ReadOne (wordsT a)[us.length] v) : ReadTo a (us ++ [v]) := by
  intro m vs hok h0 e
  have hw := words_of hok h0 e
  have hl : us.length < vs.length := by rw [hw, List.length_map] at hk; exact hk
  have h2 := h m vs hok h0 e
  have e2 : (wordsT a)[us.length] = strOfNums (wordN vs[us.length]) := by simp [hw]
  have h3 := h1 m vs[us.length] ((prof_ok hok).2.2.2 _ (List.getElem_mem hl)) e2
  rw [List.length_append, List.length_singleton, List.take_succ_eq_append_getElem hl, ← h2, h3]
/-- the size is that of the last ranking -/
def SizeOk (sz : Int) (us : List Vt) : Prop := 0 < us.length → sz = ((vx us (us.length - 1)).r.length : Int)
theorem SizeOk.snoc (us : List Vt) (v : Vt) : SizeOk (v.r.length : Int) (us ++ [v]) := by
  intro _
  rw [List.length_append, List.length_singleton, Nat.add_sub_cancel, vx_lt (by simp)]
  simp
/-- all words read: a valid profile's text gives that profile -/
theorem read_all {a : ByteArray} {us : List Vt} {sz : Int} (h : ReadTo a us) (hl : us.length = (wordsT a).length) (hs : SizeOk sz us) {m : Int} {vs : List Vt} (hok : profOk m vs = true) (h0 : 0 < vs.length) (e : a = strOfNums (fmtN m vs)) : us = vs ∧ sz = m := by
  have hw := words_of hok h0 e
  have h2 := h m vs hok h0 e
  rw [hw, List.length_map] at hl
  rw [hl, List.take_length] at h2
  refine ⟨h2, ?_⟩
  subst h2
  rw [hs h0]
  have := (vote_ok ((prof_ok hok).2.2.2 _ (vx_mem (show us.length - 1 < us.length by omega)))).1
  exact (rankOk_facts this).2.2.1
/-- what the last check says -/
def fitsB (sz : Int) (us : List Vt) (a : ByteArray) : Bool := profOk sz us && decide (strOfNums (fmtN sz us) = a)
theorem fits_is {sz : Int} {us : List Vt} {a : ByteArray} (h : fitsB sz us a = true) : IsProf a := by
  unfold fitsB at h
  rw [Bool.and_eq_true, decide_eq_true_eq] at h
  exact ⟨sz, us, h.1, h.2.symm⟩
theorem not_minus {m : Int} {vs : List Vt} {a : ByteArray} (hok : profOk m vs = true) (e : a = strOfNums (fmtN m vs)) (h : ∃ l, a.data.toList = 45 :: l) : vs = [] := by
  cases hv : vs with
  | nil => rfl
  | cons v r =>
    exfalso
    obtain ⟨x, l, e2, hx⟩ := text_head hok (by rw [hv]; simp)
    obtain ⟨l2, e3⟩ := h
    rw [e, strOf_byteL, e2] at e3
    injection e3 with e4
    exact hx e4
theorem minus_of {m : Int} {vs : List Vt} {a : ByteArray} (hok : profOk m vs = true) (e : a = strOfNums (fmtN m vs)) (h : ¬ ∃ l, a.data.toList = 45 :: l) : 0 < vs.length := by
  cases hv : vs with
  | nil =>
    exfalso
    apply h
    rw [e, hv]
    exact ⟨_, strOf_byteL _⟩
  | cons v r => simp
/-- with words -/
theorem fits_words {a : ByteArray} {us : List Vt} {sz : Int} (hm : ¬ ∃ l, a.data.toList = 45 :: l) (h : ReadTo a us) (hl : us.length = (wordsT a).length) (hs : SizeOk sz us) : fitsB sz us a = true ↔ IsProf a := by
  refine ⟨fits_is, ?_⟩
  rintro ⟨m, vs, hok, e⟩
  obtain ⟨rfl, rfl⟩ := read_all h hl hs hok (minus_of hok e hm) e
  unfold fitsB
  rw [hok, e]; simp
theorem too_many {a : ByteArray} (hm : ¬ ∃ l, a.data.toList = 45 :: l) (h : 24 < (wordsT a).length) : ¬ IsProf a := by
  rintro ⟨m, vs, hok, e⟩
  have hw := words_of hok (minus_of hok e hm) e
  have := (prof_ok hok).2.2.1
  rw [hw, List.length_map] at h
  omega
/-- with a minus -/
theorem fits_minus {a t : ByteArray} {n : Int} {l : List UInt8} (ha : a.data.toList = 45 :: l) (ht : t.data.toList = l) (hn : ∀ k ≤ 1000, t = strOfNums (decN k) → n = (k : Int)) : fitsB n [] a = true ↔ IsProf a := by
  refine ⟨fits_is, ?_⟩
  rintro ⟨m, vs, hok, e⟩
  have hv := not_minus hok e ⟨l, ha⟩
  subst hv
  have P := prof_ok hok
  have e2 : t = strOfNums (decN m.toNat) := by
    apply str_ext
    rw [ht, strOf_byteL]
    rw [e, strOf_byteL] at ha
    have : byteL (fmtN m []) = 45 :: byteL (decN m.toNat) := rfl
    rw [this] at ha
    injection ha with _ h2
    exact h2.symm
  have h3 := hn m.toNat (by omega) e2
  have h4 : n = m := by omega
  subst h4
  unfold fitsB
  rw [hok, e]; simp
/-- a word that stops the reading -/
theorem bad_word {a t : ByteArray} (hm : ¬ ∃ l, a.data.toList = 45 :: l) {k : Nat} (hk : k < (wordsT a).length) (ht : (wordsT a)[k] = t) (h : ∀ m u, voteOk m u = true → t = strOfNums (wordN u) → False) : ¬ IsProf a := by
  rintro ⟨m, vs, hok, e⟩
  have hw := words_of hok (minus_of hok e hm) e
  have hl : k < vs.length := by rw [hw, List.length_map] at hk; exact hk
  refine h m vs[k] ((prof_ok hok).2.2.2 _ (List.getElem_mem hl)) ?_
  rw [← ht]; simp [hw]
end Go.Proofs.YtaanppihgldeaaaGreatDoor
namespace Go.Proofs.YtaanppihgldeaaaGreatDoor
set_option linter.unusedSimpArgs false
set_option linter.unusedVariables false
set_option linter.unusedVariables false
open Go.RowKit

/-- how the reading of a vote ends -/
structure ReadVote (a : ByteArray) (w : World) (e : Ending) (w' : World) : Prop where
  ex : ∃ (v : Vt) (A : Option Addr) (c : Nat) (ok : Bool), e = .returned (.tuple #[.agg #[.slice A v.r.length c, .int .i64 v.c], .bool ok]) ∧ OwnI w' w.heap.size w'.heap.size (.slice A v.r.length c) v.r ∧ (∀ m u, voteOk m u = true → a = strOfNums (wordN u) → v = u ∧ ok = true) ∧ v.r.length ≤ 5 ∧ (ok = true → 0 < a.size) ∧ Below w.heap.size w w'
theorem parR_short (w : List UInt8) : (parR w).length ≤ 5 := by
  cases h : okR w
  · rw [parR_no h]; simp
  · rw [parR_yes h]; exact rank_len5 h
theorem word_parts_of {a : ByteArray} {ts : List ByteArray} (h : ts.map (·.data.toList) = spC 42 [] a.data.toList) {m : Int} {u : Vt} (hu : voteOk m u = true) (e : a = strOfNums (wordN u)) : ts.length = 2 ∧ sx ts 0 = strOfNums (decN u.c.toNat) ∧ sx ts 1 = strOfNums (rankNums u.r) := by
  rw [e, strOf_byteL, word_split hu] at h
  have hl := congrArg List.length h
  rw [List.length_map] at hl
  obtain ⟨x, y, rfl⟩ : ∃ x y, ts = [x, y] := by
    cases ts with
    | nil => simp at hl
    | cons x r =>
      cases r with
      | nil => simp at hl
      | cons y r =>
        cases r with
        | nil => exact ⟨x, y, rfl⟩
        | cons z r => simp at hl
  simp only [List.map_cons, List.map_nil, List.cons.injEq, and_true] at h
  refine ⟨rfl, str_ext ?_, str_ext ?_⟩
  · rw [sx_lt (by simp)]; rw [decN_bytes]; exact h.1
  · rw [sx_lt (by simp)]; rw [strOf_byteL]; exact h.2
theorem spC_sizes {a : ByteArray} {ts : List ByteArray} {c : UInt8} (h : ts.map (·.data.toList) = spC c [] a.data.toList) (ha : a.size ≤ 1048576) {k : Nat} (hk : k < ts.length) : (sx ts k).size ≤ 1048576 := by
  rw [sx_lt hk, size_list]
  have hm : ts[k].data.toList ∈ spC c [] a.data.toList := by rw [← h]; exact List.mem_map.2 ⟨_, List.getElem_mem hk, rfl⟩
  have := spC_short _ _ _ hm
  have h3 := size_list a
  simp only [List.length_nil] at this
  omega
set_option maxRecDepth 100000 in
set_option maxHeartbeats 4000000 in
theorem specVote (a : ByteArray) (w : World) (ha : a.size ≤ 1048576) :
    Calls Tryz.prog 22 #[.string a] w (ReadVote a w) := by
  have b0 := alloc_below w (.cells #[.slice none 0 0, .int .i64 0] 44)
  obtain ⟨r0, r1⟩ := new_pair w (.slice none 0 0) (.int .i64 0) 44 rfl
  have rf0 := new_free w #[.slice none 0 0, .int .i64 0] 44 rfl 0
  have rf1 := new_free w #[.slice none 0 0, .int .i64 0] 44 rfl 1
  have z0 : (w.alloc (.cells #[.slice none 0 0, .int .i64 0] 44)).heap.size = w.heap.size + 1 := by simp
  go_enter Tryz.func22, Tryz.ntmps22
  go_wp2_with fail
  generalize w.alloc (.cells #[.slice none 0 0, .int .i64 0] 44) = w1 at *
  (with_reducible refine (specSplitAny 42 a w1 ha).mono ?_)
  rintro e w2 ⟨A, cA, ts, rfl, hts, ho, hl, hb2⟩
  have HP := Lib.hid (fun m u hu e => word_parts_of hts (m := m) (u := u) hu e)
  have HLN := Lib.hid (show ts.length ≤ a.size + 1 by have h3 := congrArg List.length hts; rw [List.length_map] at h3; have h4 := spC_len (c := 42) a.data.toList []; rw [← size_list] at h4; omega)
  have HZ := Lib.hid (fun k (hk : k < ts.length) => spC_sizes hts ha hk)
  clear hts
  replace r0 := cell_carry hb2 r0
  replace r1 := cell_carry hb2 r1
  replace rf0 := (hb2.frozen (p := ⟨w.heap.size, 0, none⟩) (by show w.heap.size < _; omega)).trans rf0
  replace rf1 := (hb2.frozen (p := ⟨w.heap.size, 1, none⟩) (by show w.heap.size < _; omega)).trans rf1
  have hb := b0.trans (hb2.mono b0.size)
  have s2 := hb2.size
  clear b0
  by_cases h2 : ts.length = 2
  · obtain ⟨_, _, hin⟩ := ho.slice
    obtain ⟨b, o, rfl, hlt, hcc⟩ := hin.at_ (show 0 < ts.length by omega)
    have c0 := hcc 0 (by omega)
    have c1 := hcc 1 (by omega)
    rw [Nat.add_zero] at c0
    have hz0 := HZ.out 0 (by omega)
    have hz1 := HZ.out 1 (by omega)
    obtain ⟨t0, ht0⟩ : ∃ t0, sx ts 0 = t0 := ⟨_, rfl⟩
    obtain ⟨t1, ht1⟩ : ∃ t1, sx ts 1 = t1 := ⟨_, rfl⟩
    rw [ht0] at c0 hz0 HP
    rw [ht1] at c1 hz1 HP
    clear hcc hin ht0 ht1 hl ho
    rw [h2]
    go_wp2_with fail
    (with_reducible refine (specParseInt t0 _ hz0).mono ?_)
    rintro e w3 ⟨n, ok1, rfl, n0, n1, hn, hb3⟩
    have HN := Lib.hid hn
    clear hn
    replace c1 := cell_carry hb3 c1
    replace r0 := cell_carry hb3 r0
    replace r1 := cell_carry hb3 r1
    replace rf0 := (hb3.frozen (p := ⟨w.heap.size, 0, none⟩) (by show w.heap.size < _; omega)).trans rf0
    replace rf1 := (hb3.frozen (p := ⟨w.heap.size, 1, none⟩) (by show w.heap.size < _; omega)).trans rf1
    replace hb := hb.trans (hb3.mono hb.size)
    have s3 := hb3.size
    clear hb3 c0 hb2
    go_wp2_with fail
    (with_reducible refine (specParseRanking t1 _ hz1).mono ?_)
    rintro e w4 ⟨A4, c4, rfl, o4, hb4⟩
    replace r0 := cell_carry hb4 r0
    replace r1 := cell_carry hb4 r1
    replace rf0 := (hb4.frozen (p := ⟨w.heap.size, 0, none⟩) (by show w.heap.size < _; omega)).trans rf0
    replace rf1 := (hb4.frozen (p := ⟨w.heap.size, 1, none⟩) (by show w.heap.size < _; omega)).trans rf1
    have hb5 := hb.trans (hb4.mono hb.size)
    have s4 := hb4.size
    clear hb4 c1 hb
    have HR : Hid (∀ m u, voteOk m u = true → a = strOfNums (wordN u) → n = u.c ∧ ok1 = true ∧ parR t1.data.toList = u.r ∧ okR t1.data.toList = true) := fun m u hu e => by
      obtain ⟨_, e0, e1⟩ := HP.out m u hu e
      have hv := vote_ok hu
      obtain ⟨h3, h4⟩ := HN.out u.c.toNat (by omega) e0
      have h5 := parR_back hv.1
      rw [e1, strOf_byteL]
      exact ⟨by omega, h4, h5.1, h5.2⟩
    have HL5 := Lib.hid (parR_short t1.data.toList)
    clear HP HN HZ
    generalize parR t1.data.toList = L at *
    generalize okR t1.data.toList = ok2 at *
    obtain ⟨e0, e1⟩ := pair_set r0 r1 (.slice A4 L.length c4) (.int .i64 n)
    have E0 := Lib.hid e0
    have E1 := Lib.hid e1
    have hb6 := Lib.hid ((hb5.setCell (p := ⟨w.heap.size, 0, none⟩) (Nat.le_refl _) (.slice A4 L.length c4)).setCell (p := ⟨w.heap.size, 1, none⟩) (Nat.le_refl _) (.int .i64 n))
    have o6 : Hid (OwnI ((w4.setCell ⟨w.heap.size, 0, none⟩ (.slice A4 L.length c4)).setCell ⟨w.heap.size, 1, none⟩ (.int .i64 n)) w.heap.size ((w4.setCell ⟨w.heap.size, 0, none⟩ (.slice A4 L.length c4)).setCell ⟨w.heap.size, 1, none⟩ (.int .i64 n)).heap.size (.slice A4 L.length c4) L) :=
      (o4.keep fun k h1 h2 h3 => by rw [Below.heap_setCell _ _ _ _ (by show k ≠ w.heap.size; omega), Below.heap_setCell _ _ _ _ (by show k ≠ w.heap.size; omega)]).mono (by omega) (by rw [World.size_setCell, World.size_setCell]; exact Nat.le_refl _)
    have HF : Hid (∀ m u, voteOk m u = true → a = strOfNums (wordN u) → (⟨L, n⟩ : Vt) = u ∧ (ok1 && ok2) = true) := fun m u hu e => by
      obtain ⟨h3, h4, h5, h6⟩ := HR.out m u hu e
      rw [h3, h4, h5, h6]
      exact ⟨rfl, rfl⟩
    clear HR e0 e1 o4 hb5
    have h2' := HLN.out
    have HPOS : Hid (∀ ok : Bool, ok = true → 0 < a.size) := fun _ _ => by omega
    clear h2'
    cases ok1
    · go_wp2
      refine bodyPost_ret (v := .tuple #[.agg #[.slice A4 L.length c4, .int .i64 n], .bool false]) (by simp [results, Tryz.results22, go_sem, E0.out, E1.out]) rfl ?_
      exact ⟨⟨L, n⟩, A4, c4, false, rfl, o6.out, HF.out, HL5.out, HPOS.out _, hb6.out⟩
    · go_wp2
      refine bodyPost_ret (v := .tuple #[.agg #[.slice A4 L.length c4, .int .i64 n], .bool ok2]) (by simp [results, Tryz.results22, go_sem, E0.out, E1.out]) rfl ?_
      exact ⟨⟨L, n⟩, A4, c4, ok2, rfl, o6.out, HF.out, HL5.out, HPOS.out _, hb6.out⟩
  · have h2i : ((ts.length : Int) == 2) = false := by rw [beq_eq_false_iff_ne]; omega
    have HN : Hid (∀ m u, voteOk m u = true → a = strOfNums (wordN u) → False) := fun m u hu e => h2 (HP.out m u hu e).1
    obtain ⟨e0, e1⟩ := pair_set r0 r1 (.slice none 0 0) (.int .i64 0)
    have E0 := Lib.hid e0
    have E1 := Lib.hid e1
    have hb6 := Lib.hid ((hb.setCell (p := ⟨w.heap.size, 0, none⟩) (Nat.le_refl _) (.slice none 0 0)).setCell (p := ⟨w.heap.size, 1, none⟩) (Nat.le_refl _) (.int .i64 0))
    clear HP HZ e0 e1 ho
    go_wp2
    refine bodyPost_ret (v := .tuple #[.agg #[.slice none 0 0, .int .i64 0], .bool false]) (by simp [results, Tryz.results22, go_sem, E0.out, E1.out]) rfl ?_
    exact ⟨⟨[], 0⟩, none, 0, false, rfl, OwnI.nil _ _ _, fun m u hu e => (HN.out m u hu e).elim, (by simp), (fun h => by cases h), hb6.out⟩
end Go.Proofs.YtaanppihgldeaaaGreatDoor
