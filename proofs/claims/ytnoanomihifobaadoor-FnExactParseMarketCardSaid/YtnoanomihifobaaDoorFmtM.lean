/- The text of a market: the program's side. -/
import Derived.Test.YtnoanomihifobaaDoorFmtM0
import Derived.Test.YtnoanomihifobaaDoorShelfM
import Derived.Test.YtnoanomihifobaaDoorRegH
namespace Go.Proofs.YtnoanomihifobaaDoor
set_option linter.unusedVariables false
open Go.RowKit

theorem StrsAt.alloc {w : World} {A : Option Addr} {n : Nat} {ts : List ByteArray} (h : StrsAt w A n ts) (o : Obj) : StrsAt (w.alloc o) A n ts := h.below ((Below.refl _ _).alloc (Nat.le_refl _) _)
theorem bar_at (w : World) (T : TypeId) : StrsAt (w.alloc (.cells #[.string { data := #[124] }] T)) (some ⟨w.heap.size, 0, none⟩) 1 [strOfNums [124]] :=
  ⟨rfl, fun _ => ⟨w.heap.size, 0, rfl, fun j hj => by
    have e : j = 0 := by omega
    subst e
    rw [Nat.add_zero, new_cell _ _ _ rfl]; rfl⟩⟩
theorem three_rows (w : World) {A1 A2 A3 : Option Addr} {n1 n2 n3 c1 c2 c3 : Nat} {t1 t2 t3 : List ByteArray} (h1 : StrsAt w A1 n1 t1) (h2 : StrsAt w A2 n2 t2) (h3 : StrsAt w A3 n3 t3) (p1 : 0 < n1) (p3 : 0 < n3) (T : TypeId) (p2 : 0 < n2 := by omega) :
    StrRowsAt (w.alloc (.cells #[.slice A1 n1 c1, .slice A2 n2 c2, .slice A3 n3 c3] T)) (some ⟨w.heap.size, 0, none⟩) 3 [t1, t2, t3] := by
  obtain ⟨x0, x1, x2⟩ := new_triple w (.slice A1 n1 c1) (.slice A2 n2 c2) (.slice A3 n3 c3) T rfl
  refine ⟨rfl, fun _ => ⟨w.heap.size, 0, rfl, fun j hj => ?_⟩⟩
  have e1 := h1.1
  have e2 := h2.1
  have e3 := h3.1
  obtain ⟨b1, o1, rfl, _⟩ := h1.at_ p1
  obtain ⟨b2, o2, rfl, _⟩ := h2.at_ p2
  obtain ⟨b3, o3, rfl, _⟩ := h3.at_ p3
  match j, hj with
  | 0, _ => exact ⟨b1, o1, c1, by first | (simp [e1]; done) | (rw [e1] at *; exact x0), by simpa [e1] using h1.alloc _⟩
  | 1, _ => exact ⟨b2, o2, c2, by first | (simp [e2]; done) | (rw [e2] at *; exact x1), by simpa [e2] using h2.alloc _⟩
  | 2, _ => exact ⟨b3, o3, c3, by first | (simp [e3]; done) | (rw [e3] at *; exact x2), by simpa [e3] using h3.alloc _⟩
theorem flat_words (xss yss : List (List Int)) : flatS [textsOf xss, [strOfNums [124]], textsOf yss] = (wordsM xss yss).map strOfNums := by simp [flatS, wordsM, textsOf_words]
theorem words_short {xss yss : List (List Int)} (F : MarketF xss yss) : ∀ x ∈ wordsM xss yss, x.length ≤ 10 := by
  intro x hx
  unfold wordsM at hx
  simp only [List.mem_append, List.mem_map, List.mem_cons, List.not_mem_nil, or_false] at hx
  rcases hx with (⟨y, hy, rfl⟩ | rfl) | ⟨y, hy, rfl⟩
  · obtain ⟨j, hj, rfl⟩ := List.getElem_of_mem hy
    have := rankText_len (F.mr j hj)
    rw [rx_lt hj] at this
    have := F.hi
    simp [rankNums]; omega
  · simp only [List.length_cons, List.length_nil]; omega
  · obtain ⟨j, hj, rfl⟩ := List.getElem_of_mem hy
    have := rankText_len (F.wr j (by have := F.wl; omega))
    rw [rx_lt hj] at this
    have := F.hi
    simp [rankNums]; omega
theorem own0 {w : World} {lo : Nat} {v : Value} {ts : List ByteArray} (h : OwnS w lo v ts) : OwnS w 0 v ts :=
  ⟨h.1, h.2.elim .inl fun ⟨g, cap, cur, hv, hg, r⟩ => .inr ⟨g, cap, cur, hv, Nat.zero_le _, r⟩⟩
theorem implJoin_any (A : Option Addr) (n c : Nat) (T : List (List Int)) (w : World) (h : OwnS w 0 (.slice A n c) (T.map strOfNums)) (hn : T.length ≤ 100) (h0 : 0 < n) (hb : ∀ x ∈ T, x.length ≤ 10) :
    Calls Tryd.prog 28 #[.slice A n c, .string { data := #[32] }] w fun e w' => e = .returned (.string (strOfNums (joinN T))) ∧ Below w.heap.size w w' := by
  obtain ⟨hl, hc, hs⟩ := h.slice
  obtain rfl := hl
  obtain ⟨b, o, rfl, hlt, hcc⟩ := hs.at_ h0
  have hj := sh_Join b o c (T.map strOfNums) { data := #[32] } w (fun j x hx => by
    have hjl := (List.getElem?_eq_some_iff.1 hx).1
    rw [hcc j hjl, sx_lt hjl]
    rw [List.getElem?_eq_getElem hjl] at hx
    cases hx; rfl) hlt (by simp; omega) hc (by
    have e : ({ data := #[32] } : ByteArray).data.toList = [32] := rfl
    rw [e, joinN_lib, List.length_map]
    have := joinN_len T 10 hb
    omega)
  have e : (⟨(Lib.join ((T.map strOfNums).map (·.data.toList)) ({ data := #[32] } : ByteArray).data.toList).toArray⟩ : ByteArray) = strOfNums (joinN T) := by
    have e : ({ data := #[32] } : ByteArray).data.toList = [32] := rfl
    rw [e, joinN_lib]; rfl
  rw [e, List.length_map] at hj
  have HJ := Lib.hid hj
  clear hj e
  go_enter Tryd.func28, Tryd.ntmps28
  go_wp2_with fail
  (with_reducible refine HJ.out.mono ?_)
  rintro e w1 ⟨rfl, hb1⟩
  go_wp2
  go_ret
  exact ⟨rfl, hb1⟩
set_option maxRecDepth 100000 in
set_option maxHeartbeats 2000000 in
theorem implFormatMarket (A : Option Addr) (n c : Nat) (xss : List (List Int)) (B : Option Addr) (m d : Nat) (yss : List (List Int)) (w : World) (h : RowsAt w A n xss) (hn : n ≤ 1048576) (hx : ∀ xs ∈ xss, xs.length ≤ 1048576)
    (g : RowsAt w B m yss) (hm : m ≤ 1048576) (hy : ∀ xs ∈ yss, xs.length ≤ 1048576) :
    Calls Tryd.prog 16 #[.agg #[.slice A n c, .slice B m d]] w fun e w' => e = .returned (.string (fmtMarket xss yss)) ∧ Below w.heap.size w w' := by
  obtain rfl := h.len
  obtain rfl := g.len
  have HX := Lib.hid hx
  have HY := Lib.hid hy
  clear hx hy
  have hall := pair_below w (.slice A xss.length c) (.slice B yss.length d) 24
  have hz0 := hall.size
  have M0 := MktAt.new h g (c := c) (d := d) 24
  have h0 := M0.men
  have g0 := M0.women
  have c0 := M0.c0
  have c1 := M0.c1
  cases hq : marketOk xss yss
  · rw [fmtMarket_no hq]
    go_enter Tryd.func16, Tryd.ntmps16
    go_wp2_with fail
    (with_reducible refine (implMarketOk _ _ _ _ _ _ _ _ _ h0 hn HX.out g0 hm HY.out).mono ?_)
    rintro e w1 ⟨rfl, hb⟩
    rw [hq]
    have hfin := hall.trans (hb.mono hz0)
    clear h0 g0 c0 c1 hb
    go_wp2
    go_ret
    exact ⟨rfl, hfin⟩
  rw [fmtMarket_yes hq]
  have F := Lib.hid (market_facts hq)
  have HQ := Lib.hid hq
  clear hq
  go_enter Tryd.func16, Tryd.ntmps16
  go_wp2_with fail
  (with_reducible refine (implMarketOk _ _ _ _ _ _ _ _ _ h0 hn HX.out g0 hm HY.out).mono ?_)
  rintro e w1 ⟨rfl, hb⟩
  rw [HQ.out]
  have M1 := M0.below hb
  have hb1 := hall.trans (hb.mono hz0)
  have z1 := hb1.size
  clear h0 g0 c0 c1 hb M0 hall
  have c0 := M1.c0
  have c1 := M1.c1
  go_wp2
  have HFE := Lib.hid (flat_words xss yss)
  have HFL : Hid ((flatS [textsOf xss, [strOfNums [124]], textsOf yss]).length ≤ 1000) := by show _ ≤ _; have := F.out.hi; have := F.out.wl; simp [flatS, textsOf_len]; omega
  have HFP : Hid (0 < (flatS [textsOf xss, [strOfNums [124]], textsOf yss]).length) := by show 0 < _; simp [flatS, textsOf_len]; omega
  have HFQ : Hid (0 < (wordsM xss yss).length) := by show 0 < _; simp [wordsM]; omega
  have HW1 : Hid ((wordsM xss yss).length ≤ 100) := by show _ ≤ _; have := F.out.hi; have := F.out.wl; simp [wordsM]; omega
  have HW2 : Hid (∀ x ∈ wordsM xss yss, x.length ≤ 10) := words_short F.out
  refine wp_region_held_drew (S := fun w' => w'.cell? ⟨w.heap.size, 0, none⟩ = some (.slice A xss.length c) ∧ w'.cell? ⟨w.heap.size, 1, none⟩ = some (.slice B yss.length d)) (by kernel_rfl) ?_ (fun hHeld_ => ?_)
  · exact ⟨c0, c1⟩
  have hd_ := (Below.refl w1.heap.size w1).drew
  replace M1 := M1.below hd_
  replace hb1 := hb1.trans (hd_.mono hb1.size)
  clear hd_
  generalize w1.drew = w2 at *
  replace c0 := M1.c0
  replace c1 := M1.c1
  refine wpAnyH_take (i := 0) (v := ?_) (by (simp only [List.getElem?_toArray, List.getElem?_cons_succ, List.getElem?_cons_zero]) <;> rfl) (by kernel_rfl) (by kernel_rfl) (by kernel_rfl) (by exact fun _ _ _ h => h) ?_ (by assumption) ?_
  rotate_left 1
  · refine Or.inl ⟨by rfl, ?_⟩; intro w_ hSw_; (try dsimp only at hSw_); first | (go_simp; done) | (go_simp; with_reducible rfl)
  try simp only [Act.put, List.setIfInBounds_toArray, List.set_cons_zero, List.set_cons_succ]
  refine wpAnyH_take (i := 1) (v := ?_) (by (simp only [List.getElem?_toArray, List.getElem?_cons_succ, List.getElem?_cons_zero]) <;> rfl) (by kernel_rfl) (by kernel_rfl) (by kernel_rfl) (by exact fun _ _ _ h => h) ?_ (by assumption) ?_
  rotate_left 1
  · refine Or.inl ⟨by rfl, ?_⟩; intro w_ hSw_; (try dsimp only at hSw_); first | (go_simp; done) | (go_simp; with_reducible rfl)
  try simp only [Act.put, List.setIfInBounds_toArray, List.set_cons_zero, List.set_cons_succ]
  refine wpAnyH_take (i := 4) (v := ?_) (by (simp only [List.getElem?_toArray, List.getElem?_cons_succ, List.getElem?_cons_zero]) <;> rfl) (by kernel_rfl) (by kernel_rfl) (by kernel_rfl) (by exact fun _ _ _ h => h) ?_ (by assumption) ?_
  rotate_left 1
  · refine Or.inl ⟨by rfl, ?_⟩; intro w_ hSw_; (try dsimp only at hSw_); first | (go_simp; done) | (go_simp; with_reducible rfl)
  try simp only [Act.put, List.setIfInBounds_toArray, List.set_cons_zero, List.set_cons_succ]
  refine wpAnyH_take (i := 5) (v := ?_) (by (simp only [List.getElem?_toArray, List.getElem?_cons_succ, List.getElem?_cons_zero]) <;> rfl) (by kernel_rfl) (by kernel_rfl) (by kernel_rfl) (by exact fun _ _ _ h => h) ?_ (by assumption) ?_
  rotate_left 1
  · refine Or.inl ⟨by rfl, ?_⟩; intro w_ hSw_; (try dsimp only at hSw_); first | (go_simp; done) | (go_simp; with_reducible rfl)
  try simp only [Act.put, List.setIfInBounds_toArray, List.set_cons_zero, List.set_cons_succ]
  refine wpAnyH_ready (rs := [2, 3]) (by kernel_rfl) (by simp) ?_
  refine (AllReadyH.cons (by (simp only [List.getElem?_toArray, List.getElem?_cons_succ, List.getElem?_cons_zero]) <;> rfl) (fun K_ hK_ => ?_) (AllReadyH.cons (by (simp only [List.getElem?_toArray, List.getElem?_cons_succ, List.getElem?_cons_zero]) <;> rfl) (fun K_ hK_ => ?_) AllReadyH.nil))
  · go_simp
    go_at_call 30
    (with_reducible refine (rankingTexts_any _ _ _ xss _ M1.men (by have := F.out.hi; omega) F.out.mr).mono ?_)
    rintro er wm ⟨A1, c1_, rfl, o_sm, hb_⟩
    have sm := o_sm.slice.2.2
    have lsm := o_sm.slice.2.1
    clear o_sm
    replace M1 := M1.below hb_
    replace hb1 := hb1.trans (hb_.mono hb1.size)
    replace c0 := M1.c0
    replace c1 := M1.c1
    clear hb_
    refine hK_.out _ _ ⟨c0, c1⟩ (fun hHeld_ => ?_)
    clear hK_ K_
    try simp only [Act.put, List.setIfInBounds_toArray, List.set_cons_zero, List.set_cons_succ]
    refine wpAnyH_ready (rs := [3, 6]) (by kernel_rfl) (by simp) ?_
    refine (AllReadyH.cons (by (simp only [List.getElem?_toArray, List.getElem?_cons_succ, List.getElem?_cons_zero]) <;> rfl) (fun K_ hK_ => ?_) (AllReadyH.cons (by (simp only [List.getElem?_toArray, List.getElem?_cons_succ, List.getElem?_cons_zero]) <;> rfl) (fun K_ hK_ => ?_) AllReadyH.nil))
    · go_simp
      have hb_ := (Below.refl wm.heap.size wm).alloc (Nat.le_refl _) (.cells #[.string { data := #[124] }] 9)
      have sb := bar_at wm 9
      obtain ⟨gb, hgb⟩ : ∃ gb, gb = wm.heap.size := ⟨_, rfl⟩
      rw [← hgb] at sb
      rw [← hgb]
      clear hgb
      generalize wm.alloc (.cells #[.string { data := #[124] }] 9) = wb at *
      replace sm := sm.below hb_
      replace M1 := M1.below hb_
      replace hb1 := hb1.trans (hb_.mono hb1.size)
      replace c0 := M1.c0
      replace c1 := M1.c1
      clear hb_
      refine hK_.out _ _ ⟨c0, c1⟩ (fun hHeld_ => ?_)
      clear hK_ K_
      try simp only [Act.put, List.setIfInBounds_toArray, List.set_cons_zero, List.set_cons_succ]
      refine wpAnyH_ready (rs := [6]) (by kernel_rfl) (by simp) ?_
      refine (AllReadyH.cons (by (simp only [List.getElem?_toArray, List.getElem?_cons_succ, List.getElem?_cons_zero]) <;> rfl) (fun K_ hK_ => ?_) AllReadyH.nil)
      · go_simp
        go_at_call 30
        (with_reducible refine (rankingTexts_any _ _ _ yss _ M1.women (by have := F.out.hi; have := F.out.wl; omega) (fun i hi => F.out.wr i (by have := F.out.wl; omega))).mono ?_)
        rintro er wv ⟨A2, c2_, rfl, o_sw, hb_⟩
        have sw := o_sw.slice.2.2
        have lsw := o_sw.slice.2.1
        clear o_sw
        replace sm := sm.below hb_
        replace sb := sb.below hb_
        replace M1 := M1.below hb_
        replace hb1 := hb1.trans (hb_.mono hb1.size)
        replace c0 := M1.c0
        replace c1 := M1.c1
        clear hb_
        refine hK_.out _ _ ⟨c0, c1⟩ (fun hHeld_ => ?_)
        clear hK_ K_
        try simp only [Act.put, List.setIfInBounds_toArray, List.set_cons_zero, List.set_cons_succ]
        refine wpAnyH_ready (rs := [7]) (by kernel_rfl) (by simp) ?_
        refine (AllReadyH.cons (by (simp only [List.getElem?_toArray, List.getElem?_cons_succ, List.getElem?_cons_zero]) <;> rfl) (fun K_ hK_ => ?_) AllReadyH.nil)
        go_simp
        have hb_ := (Below.refl wv.heap.size wv).alloc (Nat.le_refl _) (.cells #[.slice A1 xss.length c1_, .slice (some ⟨gb, 0, none⟩) 1 1, .slice A2 yss.length c2_] 30)
        have hrows := three_rows wv sm sb sw (by have := F.out.lo; omega) (by have := F.out.lo; have := F.out.wl; omega) (c1 := c1_) (c2 := 1) (c3 := c2_) 30
        obtain ⟨gr, hgr⟩ : ∃ gr, gr = wv.heap.size := ⟨_, rfl⟩
        rw [← hgr] at hrows
        rw [← hgr]
        clear hgr
        generalize wv.alloc (.cells #[.slice A1 xss.length c1_, .slice (some ⟨gb, 0, none⟩) 1 1, .slice A2 yss.length c2_] 30) = wr at *
        replace M1 := M1.below hb_
        replace hb1 := hb1.trans (hb_.mono hb1.size)
        replace c0 := M1.c0
        replace c1 := M1.c1
        clear hb_ sm sb sw
        refine hK_.out _ _ ⟨c0, c1⟩ (fun hHeld_ => ?_)
        clear hK_ K_
        try simp only [Act.put, List.setIfInBounds_toArray, List.set_cons_zero, List.set_cons_succ]
        refine wpAnyH_ready (rs := [8]) (by kernel_rfl) (by simp) ?_
        refine (AllReadyH.cons (by (simp only [List.getElem?_toArray, List.getElem?_cons_succ, List.getElem?_cons_zero]) <;> rfl) (fun K_ hK_ => ?_) AllReadyH.nil)
        go_simp
        go_at_call 29
        (with_reducible refine (concatS_any _ _ _ _ _ hrows (by omega) HFL.out HFP.out).mono ?_)
        rintro er wc ⟨A3, c3_, rfl, o3, hb_⟩
        rw [HFE.out, List.length_map] at o3 ⊢
        replace M1 := M1.below hb_
        replace hb1 := hb1.trans (hb_.mono hb1.size)
        replace c0 := M1.c0
        replace c1 := M1.c1
        clear hb_ hrows
        refine hK_.out _ _ ⟨c0, c1⟩ (fun hHeld_ => ?_)
        clear hK_ K_
        try simp only [Act.put, List.setIfInBounds_toArray, List.set_cons_zero, List.set_cons_succ]
        refine wpAnyH_ready (rs := [9]) (by kernel_rfl) (by simp) ?_
        refine (AllReadyH.cons (by (simp only [List.getElem?_toArray, List.getElem?_cons_succ, List.getElem?_cons_zero]) <;> rfl) (fun K_ hK_ => ?_) AllReadyH.nil)
        go_simp
        go_at_call 28
        (with_reducible refine (implJoin_any _ _ _ (wordsM xss yss) _ (own0 o3) HW1.out HFQ.out HW2.out).mono ?_)
        rintro er wj ⟨rfl, hb_⟩
        replace M1 := M1.below hb_
        replace hb1 := hb1.trans (hb_.mono hb1.size)
        replace c0 := M1.c0
        replace c1 := M1.c1
        clear hb_ o3
        refine hK_.out _ _ ⟨c0, c1⟩ (fun hHeld_ => ?_)
        clear hK_ K_
        try simp only [Act.put, List.setIfInBounds_toArray, List.set_cons_zero, List.set_cons_succ]
        refine wpAnyH_take (i := 10) (v := ?_) (by (simp only [List.getElem?_toArray, List.getElem?_cons_succ, List.getElem?_cons_zero]) <;> rfl) (by kernel_rfl) (by kernel_rfl) (by kernel_rfl) (by exact fun _ _ _ h => h) ?_ (by assumption) ?_
        rotate_left 1
        · refine Or.inl ⟨by rfl, ?_⟩; intro w_ hSw_; (try dsimp only at hSw_); first | (go_simp; done) | (go_simp; with_reducible rfl)
        try simp only [Act.put, List.setIfInBounds_toArray, List.set_cons_zero, List.set_cons_succ]
        refine wpAnyH_done (by kernel_rfl) ?_ _
        go_wp2
        go_ret
        exact ⟨rfl, hb1⟩
    · go_simp
      go_at_call 30
      (with_reducible refine (rankingTexts_any _ _ _ yss _ M1.women (by have := F.out.hi; have := F.out.wl; omega) (fun i hi => F.out.wr i (by have := F.out.wl; omega))).mono ?_)
      rintro er wv ⟨A2, c2_, rfl, o_sw, hb_⟩
      have sw := o_sw.slice.2.2
      have lsw := o_sw.slice.2.1
      clear o_sw
      replace sm := sm.below hb_
      replace M1 := M1.below hb_
      replace hb1 := hb1.trans (hb_.mono hb1.size)
      replace c0 := M1.c0
      replace c1 := M1.c1
      clear hb_
      refine hK_.out _ _ ⟨c0, c1⟩ (fun hHeld_ => ?_)
      clear hK_ K_
      try simp only [Act.put, List.setIfInBounds_toArray, List.set_cons_zero, List.set_cons_succ]
      refine wpAnyH_ready (rs := [3]) (by kernel_rfl) (by simp) ?_
      refine (AllReadyH.cons (by (simp only [List.getElem?_toArray, List.getElem?_cons_succ, List.getElem?_cons_zero]) <;> rfl) (fun K_ hK_ => ?_) AllReadyH.nil)
      · go_simp
        have hb_ := (Below.refl wv.heap.size wv).alloc (Nat.le_refl _) (.cells #[.string { data := #[124] }] 9)
        have sb := bar_at wv 9
        obtain ⟨gb, hgb⟩ : ∃ gb, gb = wv.heap.size := ⟨_, rfl⟩
        rw [← hgb] at sb
        rw [← hgb]
        clear hgb
        generalize wv.alloc (.cells #[.string { data := #[124] }] 9) = wb at *
        replace sm := sm.below hb_
        replace sw := sw.below hb_
        replace M1 := M1.below hb_
        replace hb1 := hb1.trans (hb_.mono hb1.size)
        replace c0 := M1.c0
        replace c1 := M1.c1
        clear hb_
        refine hK_.out _ _ ⟨c0, c1⟩ (fun hHeld_ => ?_)
        clear hK_ K_
        try simp only [Act.put, List.setIfInBounds_toArray, List.set_cons_zero, List.set_cons_succ]
        refine wpAnyH_ready (rs := [7]) (by kernel_rfl) (by simp) ?_
        refine (AllReadyH.cons (by (simp only [List.getElem?_toArray, List.getElem?_cons_succ, List.getElem?_cons_zero]) <;> rfl) (fun K_ hK_ => ?_) AllReadyH.nil)
        go_simp
        have hb_ := (Below.refl wb.heap.size wb).alloc (Nat.le_refl _) (.cells #[.slice A1 xss.length c1_, .slice (some ⟨gb, 0, none⟩) 1 1, .slice A2 yss.length c2_] 30)
        have hrows := three_rows wb sm sb sw (by have := F.out.lo; omega) (by have := F.out.lo; have := F.out.wl; omega) (c1 := c1_) (c2 := 1) (c3 := c2_) 30
        obtain ⟨gr, hgr⟩ : ∃ gr, gr = wb.heap.size := ⟨_, rfl⟩
        rw [← hgr] at hrows
        rw [← hgr]
        clear hgr
        generalize wb.alloc (.cells #[.slice A1 xss.length c1_, .slice (some ⟨gb, 0, none⟩) 1 1, .slice A2 yss.length c2_] 30) = wr at *
        replace M1 := M1.below hb_
        replace hb1 := hb1.trans (hb_.mono hb1.size)
        replace c0 := M1.c0
        replace c1 := M1.c1
        clear hb_ sm sb sw
        refine hK_.out _ _ ⟨c0, c1⟩ (fun hHeld_ => ?_)
        clear hK_ K_
        try simp only [Act.put, List.setIfInBounds_toArray, List.set_cons_zero, List.set_cons_succ]
        refine wpAnyH_ready (rs := [8]) (by kernel_rfl) (by simp) ?_
        refine (AllReadyH.cons (by (simp only [List.getElem?_toArray, List.getElem?_cons_succ, List.getElem?_cons_zero]) <;> rfl) (fun K_ hK_ => ?_) AllReadyH.nil)
        go_simp
        go_at_call 29
        (with_reducible refine (concatS_any _ _ _ _ _ hrows (by omega) HFL.out HFP.out).mono ?_)
        rintro er wc ⟨A3, c3_, rfl, o3, hb_⟩
        rw [HFE.out, List.length_map] at o3 ⊢
        replace M1 := M1.below hb_
        replace hb1 := hb1.trans (hb_.mono hb1.size)
        replace c0 := M1.c0
        replace c1 := M1.c1
        clear hb_ hrows
        refine hK_.out _ _ ⟨c0, c1⟩ (fun hHeld_ => ?_)
        clear hK_ K_
        try simp only [Act.put, List.setIfInBounds_toArray, List.set_cons_zero, List.set_cons_succ]
        refine wpAnyH_ready (rs := [9]) (by kernel_rfl) (by simp) ?_
        refine (AllReadyH.cons (by (simp only [List.getElem?_toArray, List.getElem?_cons_succ, List.getElem?_cons_zero]) <;> rfl) (fun K_ hK_ => ?_) AllReadyH.nil)
        go_simp
        go_at_call 28
        (with_reducible refine (implJoin_any _ _ _ (wordsM xss yss) _ (own0 o3) HW1.out HFQ.out HW2.out).mono ?_)
        rintro er wj ⟨rfl, hb_⟩
        replace M1 := M1.below hb_
        replace hb1 := hb1.trans (hb_.mono hb1.size)
        replace c0 := M1.c0
        replace c1 := M1.c1
        clear hb_ o3
        refine hK_.out _ _ ⟨c0, c1⟩ (fun hHeld_ => ?_)
        clear hK_ K_
        try simp only [Act.put, List.setIfInBounds_toArray, List.set_cons_zero, List.set_cons_succ]
        refine wpAnyH_take (i := 10) (v := ?_) (by (simp only [List.getElem?_toArray, List.getElem?_cons_succ, List.getElem?_cons_zero]) <;> rfl) (by kernel_rfl) (by kernel_rfl) (by kernel_rfl) (by exact fun _ _ _ h => h) ?_ (by assumption) ?_
        rotate_left 1
        · refine Or.inl ⟨by rfl, ?_⟩; intro w_ hSw_; (try dsimp only at hSw_); first | (go_simp; done) | (go_simp; with_reducible rfl)
        try simp only [Act.put, List.setIfInBounds_toArray, List.set_cons_zero, List.set_cons_succ]
        refine wpAnyH_done (by kernel_rfl) ?_ _
        go_wp2
        go_ret
        exact ⟨rfl, hb1⟩
  · go_simp
    have hb_ := (Below.refl w2.heap.size w2).alloc (Nat.le_refl _) (.cells #[.string { data := #[124] }] 9)
    have sb := bar_at w2 9
    obtain ⟨gb, hgb⟩ : ∃ gb, gb = w2.heap.size := ⟨_, rfl⟩
    rw [← hgb] at sb
    rw [← hgb]
    clear hgb
    generalize w2.alloc (.cells #[.string { data := #[124] }] 9) = wb at *
    replace M1 := M1.below hb_
    replace hb1 := hb1.trans (hb_.mono hb1.size)
    replace c0 := M1.c0
    replace c1 := M1.c1
    clear hb_
    refine hK_.out _ _ ⟨c0, c1⟩ (fun hHeld_ => ?_)
    clear hK_ K_
    try simp only [Act.put, List.setIfInBounds_toArray, List.set_cons_zero, List.set_cons_succ]
    refine wpAnyH_ready (rs := [2]) (by kernel_rfl) (by simp) ?_
    refine (AllReadyH.cons (by (simp only [List.getElem?_toArray, List.getElem?_cons_succ, List.getElem?_cons_zero]) <;> rfl) (fun K_ hK_ => ?_) AllReadyH.nil)
    · go_simp
      go_at_call 30
      (with_reducible refine (rankingTexts_any _ _ _ xss _ M1.men (by have := F.out.hi; omega) F.out.mr).mono ?_)
      rintro er wm ⟨A1, c1_, rfl, o_sm, hb_⟩
      have sm := o_sm.slice.2.2
      have lsm := o_sm.slice.2.1
      clear o_sm
      replace sb := sb.below hb_
      replace M1 := M1.below hb_
      replace hb1 := hb1.trans (hb_.mono hb1.size)
      replace c0 := M1.c0
      replace c1 := M1.c1
      clear hb_
      refine hK_.out _ _ ⟨c0, c1⟩ (fun hHeld_ => ?_)
      clear hK_ K_
      try simp only [Act.put, List.setIfInBounds_toArray, List.set_cons_zero, List.set_cons_succ]
      refine wpAnyH_ready (rs := [6]) (by kernel_rfl) (by simp) ?_
      refine (AllReadyH.cons (by (simp only [List.getElem?_toArray, List.getElem?_cons_succ, List.getElem?_cons_zero]) <;> rfl) (fun K_ hK_ => ?_) AllReadyH.nil)
      · go_simp
        go_at_call 30
        (with_reducible refine (rankingTexts_any _ _ _ yss _ M1.women (by have := F.out.hi; have := F.out.wl; omega) (fun i hi => F.out.wr i (by have := F.out.wl; omega))).mono ?_)
        rintro er wv ⟨A2, c2_, rfl, o_sw, hb_⟩
        have sw := o_sw.slice.2.2
        have lsw := o_sw.slice.2.1
        clear o_sw
        replace sm := sm.below hb_
        replace sb := sb.below hb_
        replace M1 := M1.below hb_
        replace hb1 := hb1.trans (hb_.mono hb1.size)
        replace c0 := M1.c0
        replace c1 := M1.c1
        clear hb_
        refine hK_.out _ _ ⟨c0, c1⟩ (fun hHeld_ => ?_)
        clear hK_ K_
        try simp only [Act.put, List.setIfInBounds_toArray, List.set_cons_zero, List.set_cons_succ]
        refine wpAnyH_ready (rs := [7]) (by kernel_rfl) (by simp) ?_
        refine (AllReadyH.cons (by (simp only [List.getElem?_toArray, List.getElem?_cons_succ, List.getElem?_cons_zero]) <;> rfl) (fun K_ hK_ => ?_) AllReadyH.nil)
        go_simp
        have hb_ := (Below.refl wv.heap.size wv).alloc (Nat.le_refl _) (.cells #[.slice A1 xss.length c1_, .slice (some ⟨gb, 0, none⟩) 1 1, .slice A2 yss.length c2_] 30)
        have hrows := three_rows wv sm sb sw (by have := F.out.lo; omega) (by have := F.out.lo; have := F.out.wl; omega) (c1 := c1_) (c2 := 1) (c3 := c2_) 30
        obtain ⟨gr, hgr⟩ : ∃ gr, gr = wv.heap.size := ⟨_, rfl⟩
        rw [← hgr] at hrows
        rw [← hgr]
        clear hgr
        generalize wv.alloc (.cells #[.slice A1 xss.length c1_, .slice (some ⟨gb, 0, none⟩) 1 1, .slice A2 yss.length c2_] 30) = wr at *
        replace M1 := M1.below hb_
        replace hb1 := hb1.trans (hb_.mono hb1.size)
        replace c0 := M1.c0
        replace c1 := M1.c1
        clear hb_ sm sb sw
        refine hK_.out _ _ ⟨c0, c1⟩ (fun hHeld_ => ?_)
        clear hK_ K_
        try simp only [Act.put, List.setIfInBounds_toArray, List.set_cons_zero, List.set_cons_succ]
        refine wpAnyH_ready (rs := [8]) (by kernel_rfl) (by simp) ?_
        refine (AllReadyH.cons (by (simp only [List.getElem?_toArray, List.getElem?_cons_succ, List.getElem?_cons_zero]) <;> rfl) (fun K_ hK_ => ?_) AllReadyH.nil)
        go_simp
        go_at_call 29
        (with_reducible refine (concatS_any _ _ _ _ _ hrows (by omega) HFL.out HFP.out).mono ?_)
        rintro er wc ⟨A3, c3_, rfl, o3, hb_⟩
        rw [HFE.out, List.length_map] at o3 ⊢
        replace M1 := M1.below hb_
        replace hb1 := hb1.trans (hb_.mono hb1.size)
        replace c0 := M1.c0
        replace c1 := M1.c1
        clear hb_ hrows
        refine hK_.out _ _ ⟨c0, c1⟩ (fun hHeld_ => ?_)
        clear hK_ K_
        try simp only [Act.put, List.setIfInBounds_toArray, List.set_cons_zero, List.set_cons_succ]
        refine wpAnyH_ready (rs := [9]) (by kernel_rfl) (by simp) ?_
        refine (AllReadyH.cons (by (simp only [List.getElem?_toArray, List.getElem?_cons_succ, List.getElem?_cons_zero]) <;> rfl) (fun K_ hK_ => ?_) AllReadyH.nil)
        go_simp
        go_at_call 28
        (with_reducible refine (implJoin_any _ _ _ (wordsM xss yss) _ (own0 o3) HW1.out HFQ.out HW2.out).mono ?_)
        rintro er wj ⟨rfl, hb_⟩
        replace M1 := M1.below hb_
        replace hb1 := hb1.trans (hb_.mono hb1.size)
        replace c0 := M1.c0
        replace c1 := M1.c1
        clear hb_ o3
        refine hK_.out _ _ ⟨c0, c1⟩ (fun hHeld_ => ?_)
        clear hK_ K_
        try simp only [Act.put, List.setIfInBounds_toArray, List.set_cons_zero, List.set_cons_succ]
        refine wpAnyH_take (i := 10) (v := ?_) (by (simp only [List.getElem?_toArray, List.getElem?_cons_succ, List.getElem?_cons_zero]) <;> rfl) (by kernel_rfl) (by kernel_rfl) (by kernel_rfl) (by exact fun _ _ _ h => h) ?_ (by assumption) ?_
        rotate_left 1
        · refine Or.inl ⟨by rfl, ?_⟩; intro w_ hSw_; (try dsimp only at hSw_); first | (go_simp; done) | (go_simp; with_reducible rfl)
        try simp only [Act.put, List.setIfInBounds_toArray, List.set_cons_zero, List.set_cons_succ]
        refine wpAnyH_done (by kernel_rfl) ?_ _
        go_wp2
        go_ret
        exact ⟨rfl, hb1⟩
end Go.Proofs.YtnoanomihifobaaDoor
