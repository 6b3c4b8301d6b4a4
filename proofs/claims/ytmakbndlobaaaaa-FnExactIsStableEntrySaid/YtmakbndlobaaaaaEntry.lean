/- Entries of students into colleges: the check, the places that are filled. -/
import Derived.Test.YtmakbndlobaaaaaSchool
namespace Go.Proofs.Ytmakbndlobaaaaa
set_option linter.unusedVariables false
open Go.RowKit

theorem ix_set' {xs : List Int} {j i : Nat} {v : Int} (hj : j < xs.length) : ix (xs.set j v) i = if i = j then v else ix xs i := by
  by_cases hi : i < xs.length
  · rw [ix_lt (by simpa using hi), List.getElem_set, ix_lt hi]
    by_cases e : j = i
    · subst e; simp
    · rw [if_neg e, if_neg (fun h => e h.symm)]
  · rw [ix_ge (by simp; omega), ix_ge (by omega), if_neg (by omega)]
/-- how many of the first j have each college -/
def fillTo (c : Nat) (zs : List Int) : Nat → List Int
  | 0 => List.replicate c 0
  | j + 1 => if 0 ≤ ix zs j then (fillTo c zs j).set (ix zs j).toNat (ix (fillTo c zs j) (ix zs j).toNat + 1) else fillTo c zs j
theorem fillTo_len (c : Nat) (zs : List Int) (j : Nat) : (fillTo c zs j).length = c := by
  induction j with
  | zero => simp [fillTo]
  | succ j ih => simp only [fillTo]; split <;> simp [ih]
theorem fillTo_bd {c : Nat} {zs : List Int} (j : Nat) (h : ∀ i, i < j → ix zs i < c) : ∀ i, i < c → 0 ≤ ix (fillTo c zs j) i ∧ ix (fillTo c zs j) i ≤ j := by
  induction j with
  | zero => intro i hi; rw [fillTo, ix_lt (by simpa using hi)]; simp
  | succ j ih =>
    intro i hi
    have h0 := h j (by omega)
    have h1 := ih (fun i hi => h i (by omega)) i hi
    rw [fillTo]
    split
    · have h2 := ih (fun i hi => h i (by omega)) (ix zs j).toNat (by omega)
      rw [ix_set' (by rw [fillTo_len]; omega)]
      split <;> omega
    · omega
def filledOf (ccc : List (List Int)) (zs : List Int) : List Int := fillTo ccc.length zs zs.length
def entryPl (ccc : List (List Int)) (ps zs : List Int) : Bool := allN (fun k => decide (ix (filledOf ccc zs) k ≤ ix ps k)) ccc.length
def entryOk (sss ccc : List (List Int)) (ps zs : List Int) : Bool := schoolOk sss ccc ps && decide ((zs.length : Int) = sss.length) && zs.all (inB · (-1) ((ccc.length : Int) - 1)) && entryPl ccc ps zs
structure EntryF (sss ccc : List (List Int)) (ps zs : List Int) : Prop where
  sch : SchoolF sss ccc ps
  zl : zs.length = sss.length
  zb : ∀ i, i < zs.length → -1 ≤ ix zs i ∧ ix zs i < ccc.length
theorem entry_facts0 {sss ccc : List (List Int)} {ps zs : List Int} (h1 : schoolOk sss ccc ps = true) (h2 : (zs.length : Int) = sss.length) (h3 : zs.all (inB · (-1) ((ccc.length : Int) - 1)) = true) : EntryF sss ccc ps zs :=
  ⟨school_facts h1, by omega, fun i hi => by have := inB_iff.1 (List.all_eq_true.1 h3 _ (ix_mem hi)); omega⟩
theorem entry_facts {sss ccc : List (List Int)} {ps zs : List Int} (h : entryOk sss ccc ps zs = true) : EntryF sss ccc ps zs := by
  unfold entryOk at h
  rw [Bool.and_eq_true, Bool.and_eq_true, Bool.and_eq_true, decide_eq_true_eq] at h
  exact entry_facts0 h.1.1.1 h.1.1.2 h.1.2
set_option maxHeartbeats 800000 in
theorem filled_any (A : Option Addr) (n c : Nat) (sss : List (List Int)) (B : Option Addr) (m d : Nat) (ccc : List (List Int)) (C : Option Addr) (l e : Nat) (ps : List Int) (D : Option Addr) (p r : Nat) (zs : List Int) (w : World) (h : RowsAt w A n sss)
    (g : RowsAt w B m ccc) (q : IntsAt w C l ps) (z : IntsAt w D p zs) (F : EntryF sss ccc ps zs) :
    Calls Try.prog 37 #[.agg #[.slice A n c, .slice B m d, .slice C l e], .slice D p r] w fun r w' => ∃ A' c', r = .returned (.slice A' m c') ∧ OwnI w' w.heap.size w'.heap.size (.slice A' m c') (filledOf ccc zs) ∧ Below w.heap.size w w' := by
  obtain rfl := h.len
  obtain rfl := g.len
  obtain rfl := q.len
  obtain rfl := z.len
  have FF := Lib.hid F
  have f1 := F.sch.n5
  have f2 := F.sch.c3
  have f3 := Nat.le_of_eq F.zl
  unfold filledOf
  have hall := triple_below w (.slice A sss.length c) (.slice B ccc.length d) (.slice C ps.length e) 28
  have hz0 := hall.size
  have z0 := z.below hall
  have c1 := (new_triple w (.slice A sss.length c) (.slice B ccc.length d) (.slice C ps.length e) 28 rfl).2.1
  clear F
  go_enter Try.func37, Try.ntmps37
  go_wp2_with ((with_reducible refine wpList_make_ints _ rfl _ _ rfl ccc.length rfl rfl (by omega) ?_); intro w2 ho hb1 hs1)
  have hW : (w.alloc (.cells #[.slice A sss.length c, .slice B ccc.length d, .slice C ps.length e] 28)).heap.size = w.heap.size + 1 := World.size_alloc _ _
  rw [hW] at ho
  have hz1 : w.heap.size + 1 ≤ w2.heap.size := by have := hb1.size; omega
  clear hW hs1
  generalize w.alloc (.cells #[.slice A sss.length c, .slice B ccc.length d, .slice C ps.length e] 28) = W0 at *
  have hb2 := hall.trans (hb1.mono hz0)
  have z2 := hb2.size
  rw [show List.replicate ccc.length 0 = fillTo ccc.length zs 0 from rfl] at ho
  clear c1 hb1
  go_loopw [7, 14] (fun _ i wr => ∃ j : Nat, j ≤ zs.length ∧ i = .int .i64 j ∧ OwnI wr (w.heap.size + 1) (w.heap.size + 1 + 1) (.slice (some ⟨w.heap.size + 1, 0, none⟩) ccc.length ccc.length) (fillTo ccc.length zs j) ∧ Below w.heap.size w wr) (fun _ i _ => zs.length - (intOf i).toNat)
  case atStart => exact ⟨0, Nat.zero_le _, rfl, ho, hb2⟩
  case round =>
    obtain ⟨j, hj, rfl, hown, hb⟩ := hrel
    have zr := hb.size
    by_cases hjl : j < zs.length
    · obtain ⟨bz, oz, ez, _, hcz⟩ := (z.below hb).at_ hjl
      cases ez
      have cj := hcz j hjl
      clear hcz
      have zb := FF.out.zb j hjl
      by_cases h0 : 0 ≤ ix zs j
      · obtain ⟨k, hk⟩ : ∃ k : Nat, ix zs j = (k : Int) := ⟨(ix zs j).toNat, by omega⟩
        have hkl : k < ccc.length := by omega
        have HNX : Hid (fillTo ccc.length zs (j + 1) = (fillTo ccc.length zs j).set k (ix (fillTo ccc.length zs j) k + 1)) := by show fillTo ccc.length zs (j + 1) = _; rw [fillTo, if_pos h0, hk]; rfl
        have bp := fillTo_bd (c := ccc.length) (zs := zs) j (fun i hi => (FF.out.zb i (by omega)).2) k hkl
        have cp := hown.cellAt k hkl
        have fp := hown.frozenAt k
        rw [hk] at cj
        obtain ⟨o1, n1⟩ := hown.stored k (ix (fillTo ccc.length zs j) k + 1)
        have o1 : OwnI _ _ _ _ _ := o1
        rw [← HNX.out] at o1
        have O1 := Lib.hid o1
        have B1 := Lib.hid (hb.trans (n1.toBelow (B := w.heap.size) (by omega) zr))
        clear o1 n1 hown hk h0 zb
        generalize ix (fillTo ccc.length zs j) k = cc at *
        go_wp2
        go_roundw
        case rel => exact ⟨j + 1, by omega, by go_num, O1.out, B1.out⟩
        case measure => simp [intOf]; omega
      · have HNX : Hid (fillTo ccc.length zs (j + 1) = fillTo ccc.length zs j) := by show fillTo ccc.length zs (j + 1) = _; rw [fillTo, if_neg h0]
        have hneg : ix zs j < 0 := by omega
        clear h0 zb
        go_wp2
        go_roundw
        case rel => exact ⟨j + 1, by omega, by go_num, by rw [HNX.out]; exact hown, hb⟩
        case measure => simp [intOf]; omega
    · obtain rfl : j = zs.length := by omega
      go_wp2
      go_ret
      exact ⟨_, _, rfl, hown.mono (Nat.le_succ _) (show w.heap.size + 1 + 1 ≤ wr.heap.size by have := hown.num; omega), hb⟩
set_option maxHeartbeats 800000 in
theorem l21Filled_any (A : Option Addr) (n c : Nat) (sss : List (List Int)) (B : Option Addr) (m d : Nat) (ccc : List (List Int)) (C : Option Addr) (l e : Nat) (ps : List Int) (D : Option Addr) (p r : Nat) (zs : List Int) (w : World) (h : RowsAt w A n sss)
    (g : RowsAt w B m ccc) (q : IntsAt w C l ps) (z : IntsAt w D p zs) (F : EntryF sss ccc ps zs) :
    Calls Try.prog 36 #[.agg #[.slice A n c, .slice B m d, .slice C l e], .slice D p r] w fun r w' => ∃ A' c', r = .returned (.slice A' m c') ∧ OwnI w' w.heap.size w'.heap.size (.slice A' m c') (filledOf ccc zs) ∧ Below w.heap.size w w' := by
  obtain rfl := h.len
  obtain rfl := g.len
  obtain rfl := q.len
  obtain rfl := z.len
  have FF := Lib.hid F
  have f1 := F.sch.n5
  have f2 := F.sch.c3
  have f3 := Nat.le_of_eq F.zl
  unfold filledOf
  have hall := triple_below w (.slice A sss.length c) (.slice B ccc.length d) (.slice C ps.length e) 28
  have hz0 := hall.size
  have z0 := z.below hall
  have c1 := (new_triple w (.slice A sss.length c) (.slice B ccc.length d) (.slice C ps.length e) 28 rfl).2.1
  clear F
  go_enter Try.func36, Try.ntmps36
  go_wp2_with ((with_reducible refine wpList_make_ints _ rfl _ _ rfl ccc.length rfl rfl (by omega) ?_); intro w2 ho hb1 hs1)
  have hW : (w.alloc (.cells #[.slice A sss.length c, .slice B ccc.length d, .slice C ps.length e] 28)).heap.size = w.heap.size + 1 := World.size_alloc _ _
  rw [hW] at ho
  have hz1 : w.heap.size + 1 ≤ w2.heap.size := by have := hb1.size; omega
  clear hW hs1
  generalize w.alloc (.cells #[.slice A sss.length c, .slice B ccc.length d, .slice C ps.length e] 28) = W0 at *
  have hb2 := hall.trans (hb1.mono hz0)
  have z2 := hb2.size
  rw [show List.replicate ccc.length 0 = fillTo ccc.length zs 0 from rfl] at ho
  clear c1 hb1
  go_loopw [7, 14] (fun _ i wr => ∃ j : Nat, j ≤ zs.length ∧ i = .int .i64 j ∧ OwnI wr (w.heap.size + 1) (w.heap.size + 1 + 1) (.slice (some ⟨w.heap.size + 1, 0, none⟩) ccc.length ccc.length) (fillTo ccc.length zs j) ∧ Below w.heap.size w wr) (fun _ i _ => zs.length - (intOf i).toNat)
  case atStart => exact ⟨0, Nat.zero_le _, rfl, ho, hb2⟩
  case round =>
    obtain ⟨j, hj, rfl, hown, hb⟩ := hrel
    have zr := hb.size
    by_cases hjl : j < zs.length
    · obtain ⟨bz, oz, ez, _, hcz⟩ := (z.below hb).at_ hjl
      cases ez
      have cj := hcz j hjl
      clear hcz
      have zb := FF.out.zb j hjl
      by_cases h0 : 0 ≤ ix zs j
      · obtain ⟨k, hk⟩ : ∃ k : Nat, ix zs j = (k : Int) := ⟨(ix zs j).toNat, by omega⟩
        have hkl : k < ccc.length := by omega
        have HNX : Hid (fillTo ccc.length zs (j + 1) = (fillTo ccc.length zs j).set k (ix (fillTo ccc.length zs j) k + 1)) := by show fillTo ccc.length zs (j + 1) = _; rw [fillTo, if_pos h0, hk]; rfl
        have bp := fillTo_bd (c := ccc.length) (zs := zs) j (fun i hi => (FF.out.zb i (by omega)).2) k hkl
        have cp := hown.cellAt k hkl
        have fp := hown.frozenAt k
        rw [hk] at cj
        obtain ⟨o1, n1⟩ := hown.stored k (ix (fillTo ccc.length zs j) k + 1)
        have o1 : OwnI _ _ _ _ _ := o1
        rw [← HNX.out] at o1
        have O1 := Lib.hid o1
        have B1 := Lib.hid (hb.trans (n1.toBelow (B := w.heap.size) (by omega) zr))
        clear o1 n1 hown hk h0 zb
        generalize ix (fillTo ccc.length zs j) k = cc at *
        go_wp2
        go_roundw
        case rel => exact ⟨j + 1, by omega, by go_num, O1.out, B1.out⟩
        case measure => simp [intOf]; omega
      · have HNX : Hid (fillTo ccc.length zs (j + 1) = fillTo ccc.length zs j) := by show fillTo ccc.length zs (j + 1) = _; rw [fillTo, if_neg h0]
        have hneg : ix zs j < 0 := by omega
        clear h0 zb
        go_wp2
        go_roundw
        case rel => exact ⟨j + 1, by omega, by go_num, by rw [HNX.out]; exact hown, hb⟩
        case measure => simp [intOf]; omega
    · obtain rfl : j = zs.length := by omega
      go_wp2
      go_ret
      exact ⟨_, _, rfl, hown.mono (Nat.le_succ _) (show w.heap.size + 1 + 1 ≤ wr.heap.size by have := hown.num; omega), hb⟩
set_option maxHeartbeats 1000000 in
theorem implEntryOk (A : Option Addr) (n c : Nat) (sss : List (List Int)) (B : Option Addr) (m d : Nat) (ccc : List (List Int)) (C : Option Addr) (l e : Nat) (ps : List Int) (D : Option Addr) (p r : Nat) (zs : List Int) (w : World) (h : RowsAt w A n sss) (hn : n ≤ 1048576) (hx : ∀ xs ∈ sss, xs.length ≤ 1048576)
    (g : RowsAt w B m ccc) (hm : m ≤ 1048576) (hy : ∀ xs ∈ ccc, xs.length ≤ 1048576) (q : IntsAt w C l ps) (hl : l ≤ 1048576) (z : IntsAt w D p zs) (hp : p ≤ 1048576) :
    Calls Try.prog 15 #[.agg #[.slice A n c, .slice B m d, .slice C l e], .slice D p r] w fun r w' => r = .returned (.bool (entryOk sss ccc ps zs)) ∧ Below w.heap.size w w' := by
  obtain rfl := h.len
  obtain rfl := g.len
  obtain rfl := q.len
  obtain rfl := z.len
  have HX := Lib.hid hx
  have HY := Lib.hid hy
  clear hx hy
  have hall := triple_below w (.slice A sss.length c) (.slice B ccc.length d) (.slice C ps.length e) 28
  have hz0 := hall.size
  have S0 := SchAt.new h g q (c := c) (d := d) (e := e) 28
  obtain ⟨c0, c1, c2, h0, g0, q0⟩ := S0
  have S0 : SchAt (w.alloc (.cells #[.slice A sss.length c, .slice B ccc.length d, .slice C ps.length e] 28)) _ _ _ _ _ _ _ _ _ _ _ _ _ := ⟨c0, c1, c2, h0, g0, q0⟩
  have z0 := z.below hall
  cases h1 : schoolOk sss ccc ps
  · have HE : Hid (entryOk sss ccc ps zs = false) := by show _ = _; unfold entryOk; simp [h1]
    go_enter Try.func15, Try.ntmps15
    go_wp2_with fail
    (with_reducible refine (implSchoolOk _ _ _ _ _ _ _ _ _ _ _ _ _ h0 hn HX.out g0 hm HY.out q0 hl).mono ?_)
    rintro er w1 ⟨rfl, hb⟩
    rw [h1]
    have S1 := S0.below hb
    have z1 := z0.below hb
    have b1 := hall.trans (hb.mono hz0)
    have s1 := b1.size
    clear hb S0 hall hz0 c0 c1 c2 h0 g0 q0 z0
    obtain ⟨c0, c1, c2, h0, g0, q0⟩ := S1
    have S1 : SchAt w1 _ _ _ _ _ _ _ _ _ _ _ _ _ := ⟨c0, c1, c2, h0, g0, q0⟩
    go_wp2
    go_ret
    exact ⟨ret_b HE.out.symm, b1⟩
  by_cases h2 : (zs.length : Int) = sss.length
  case neg =>
    have HE : Hid (entryOk sss ccc ps zs = false) := by show _ = _; unfold entryOk; simp [h2]
    have h3 : ((zs.length : Int) != sss.length) = true := by rw [bne_iff_ne]; exact h2
    go_enter Try.func15, Try.ntmps15
    go_wp2_with fail
    (with_reducible refine (implSchoolOk _ _ _ _ _ _ _ _ _ _ _ _ _ h0 hn HX.out g0 hm HY.out q0 hl).mono ?_)
    rintro er w1 ⟨rfl, hb⟩
    rw [h1]
    have S1 := S0.below hb
    have z1 := z0.below hb
    have b1 := hall.trans (hb.mono hz0)
    have s1 := b1.size
    clear hb S0 hall hz0 c0 c1 c2 h0 g0 q0 z0
    obtain ⟨c0, c1, c2, h0, g0, q0⟩ := S1
    have S1 : SchAt w1 _ _ _ _ _ _ _ _ _ _ _ _ _ := ⟨c0, c1, c2, h0, g0, q0⟩
    go_wp2
    go_ret
    exact ⟨ret_b HE.out.symm, b1⟩
  have h3 : ((zs.length : Int) != sss.length) = false := by rw [bne_eq_false_iff_eq]; exact h2
  have H2 := Lib.hid h2
  have hFS := Lib.hid (school_facts h1)
  have f1 := (school_facts h1).n5
  have f2 := (school_facts h1).c3
  have f3 := (school_facts h1).c1
  have f4 : zs.length ≤ sss.length := by omega
  clear h2
  cases h4 : zs.all (inB · (-1) ((ccc.length : Int) - 1))
  · have HE : Hid (entryOk sss ccc ps zs = false) := by show _ = _; unfold entryOk; simp [h4]
    go_enter Try.func15, Try.ntmps15
    go_wp2_with fail
    (with_reducible refine (implSchoolOk _ _ _ _ _ _ _ _ _ _ _ _ _ h0 hn HX.out g0 hm HY.out q0 hl).mono ?_)
    rintro er w1 ⟨rfl, hb⟩
    rw [h1]
    have S1 := S0.below hb
    have z1 := z0.below hb
    have b1 := hall.trans (hb.mono hz0)
    have s1 := b1.size
    clear hb S0 hall hz0 c0 c1 c2 h0 g0 q0 z0
    obtain ⟨c0, c1, c2, h0, g0, q0⟩ := S1
    have S1 : SchAt w1 _ _ _ _ _ _ _ _ _ _ _ _ _ := ⟨c0, c1, c2, h0, g0, q0⟩
    go_wp2_with fail
    (with_reducible refine (allWithin_any _ _ _ _ _ _ _ z1 (by omega)).mono ?_)
    rintro er w2 ⟨rfl, hb⟩
    rw [h4]
    have S2 := S1.below hb
    have z2 := z1.below hb
    have b2 := b1.trans (hb.mono s1)
    have s2 := b2.size
    clear hb S1 b1 s1 c0 c1 c2 h0 g0 q0 z1
    obtain ⟨c0, c1, c2, h0, g0, q0⟩ := S2
    have S2 : SchAt w2 _ _ _ _ _ _ _ _ _ _ _ _ _ := ⟨c0, c1, c2, h0, g0, q0⟩
    go_wp2
    go_ret
    exact ⟨ret_b HE.out.symm, b2⟩
  have FE := Lib.hid (entry_facts0 h1 H2.out h4)
  have HF : Hid (entryOk sss ccc ps zs = entryPl ccc ps zs) := by show _ = _; unfold entryOk; rw [h1, h4, decide_eq_true H2.out]; rfl
  go_enter Try.func15, Try.ntmps15
  go_wp2_with fail
  (with_reducible refine (implSchoolOk _ _ _ _ _ _ _ _ _ _ _ _ _ h0 hn HX.out g0 hm HY.out q0 hl).mono ?_)
  rintro er w1 ⟨rfl, hb⟩
  rw [h1]
  have S1 := S0.below hb
  have z1 := z0.below hb
  have b1 := hall.trans (hb.mono hz0)
  have s1 := b1.size
  clear hb S0 hall hz0 c0 c1 c2 h0 g0 q0 z0
  obtain ⟨c0, c1, c2, h0, g0, q0⟩ := S1
  have S1 : SchAt w1 _ _ _ _ _ _ _ _ _ _ _ _ _ := ⟨c0, c1, c2, h0, g0, q0⟩
  go_wp2_with fail
  (with_reducible refine (allWithin_any _ _ _ _ _ _ _ z1 (by omega)).mono ?_)
  rintro er w2 ⟨rfl, hb⟩
  rw [h4]
  have S2 := S1.below hb
  have z2 := z1.below hb
  have b2 := b1.trans (hb.mono s1)
  have s2 := b2.size
  clear hb S1 b1 s1 c0 c1 c2 h0 g0 q0 z1
  obtain ⟨c0, c1, c2, h0, g0, q0⟩ := S2
  have S2 : SchAt w2 _ _ _ _ _ _ _ _ _ _ _ _ _ := ⟨c0, c1, c2, h0, g0, q0⟩
  go_wp2_with fail
  (with_reducible refine (filled_any _ _ _ _ _ _ _ _ _ _ _ _ _ _ _ _ _ h0 g0 q0 z2 FE.out).mono ?_)
  rintro er w3 ⟨A3, c3, rfl, of3, hb⟩
  have b3 := b2.trans (hb.mono s2)
  have s3 := b3.size
  have S3 := S2.below hb
  clear hb S2 b2 s2 c0 c1 c2 h0 g0 q0 z2
  obtain ⟨c0, c1, c2, h0, g0, q3⟩ := S3
  obtain ⟨gf, rfl, _, _⟩ := of3.head f3
  clear c0 c1
  go_wp2
  go_loop [5, 6, 31] (fun _ _ i => ∃ k : Nat, k ≤ ccc.length ∧ i = .int .i64 k ∧ allN (fun k => decide (ix (filledOf ccc zs) k ≤ ix ps k)) k = true) (fun _ _ i => ccc.length - (intOf i).toNat)
  case atStart => exact ⟨0, Nat.zero_le _, rfl, rfl⟩
  case round =>
    obtain ⟨k, hk, rfl, hallr⟩ := hrel
    have HA := Lib.hid hallr
    clear hallr
    by_cases hlt : k < ccc.length
    · obtain ⟨bp, op, ep, _, hcp⟩ := q3.at_ (show k < ps.length by have := FE.out.sch.pl; omega)
      cases ep
      have kp := hcp k (by have := FE.out.sch.pl; omega)
      have kf := of3.cellAt k hlt
      have i1 : k < ps.length := by have := FE.out.sch.pl; omega
      clear hcp
      by_cases hgt : ix ps k < ix (filledOf ccc zs) k
      · have HS : Hid (entryPl ccc ps zs = false) := allN_false (p := fun k => decide (ix (filledOf ccc zs) k ≤ ix ps k)) hlt (by simp; omega)
        go_wp2
        go_ret
        exact ⟨ret_b (by rw [HF.out, HS.out]), b3⟩
      · have HN := Lib.hid (allN_step (p := fun k => decide (ix (filledOf ccc zs) k ≤ ix ps k)) HA.out (by simp; omega))
        have hle : ix (filledOf ccc zs) k ≤ ix ps k := by omega
        clear hgt
        go_wp2
        go_round
        case rel => exact ⟨k + 1, by omega, by go_num, HN.out⟩
        case measure => simp [intOf]; omega
    · obtain rfl : k = ccc.length := by omega
      have HS : Hid (entryPl ccc ps zs = true) := HA.out
      go_wp2
      go_ret
      exact ⟨ret_b (by rw [HF.out, HS.out]), b3⟩
set_option maxHeartbeats 1000000 in
theorem specEntryOk (A : Option Addr) (n c : Nat) (sss : List (List Int)) (B : Option Addr) (m d : Nat) (ccc : List (List Int)) (C : Option Addr) (l e : Nat) (ps : List Int) (D : Option Addr) (p r : Nat) (zs : List Int) (w : World) (h : RowsAt w A n sss) (hn : n ≤ 1048576) (hx : ∀ xs ∈ sss, xs.length ≤ 1048576)
    (g : RowsAt w B m ccc) (hm : m ≤ 1048576) (hy : ∀ xs ∈ ccc, xs.length ≤ 1048576) (q : IntsAt w C l ps) (hl : l ≤ 1048576) (z : IntsAt w D p zs) (hp : p ≤ 1048576) :
    Calls Try.prog 13 #[.agg #[.slice A n c, .slice B m d, .slice C l e], .slice D p r] w fun r w' => r = .returned (.bool (entryOk sss ccc ps zs)) ∧ Below w.heap.size w w' := by
  obtain rfl := h.len
  obtain rfl := g.len
  obtain rfl := q.len
  obtain rfl := z.len
  have HX := Lib.hid hx
  have HY := Lib.hid hy
  clear hx hy
  have hall := triple_below w (.slice A sss.length c) (.slice B ccc.length d) (.slice C ps.length e) 28
  have hz0 := hall.size
  have S0 := SchAt.new h g q (c := c) (d := d) (e := e) 28
  obtain ⟨c0, c1, c2, h0, g0, q0⟩ := S0
  have S0 : SchAt (w.alloc (.cells #[.slice A sss.length c, .slice B ccc.length d, .slice C ps.length e] 28)) _ _ _ _ _ _ _ _ _ _ _ _ _ := ⟨c0, c1, c2, h0, g0, q0⟩
  have z0 := z.below hall
  cases h1 : schoolOk sss ccc ps
  · have HE : Hid (entryOk sss ccc ps zs = false) := by show _ = _; unfold entryOk; simp [h1]
    go_enter Try.func13, Try.ntmps13
    go_wp2_with fail
    (with_reducible refine (specSchoolOk _ _ _ _ _ _ _ _ _ _ _ _ _ h0 hn HX.out g0 hm HY.out q0 hl).mono ?_)
    rintro er w1 ⟨rfl, hb⟩
    rw [h1]
    have S1 := S0.below hb
    have z1 := z0.below hb
    have b1 := hall.trans (hb.mono hz0)
    have s1 := b1.size
    clear hb S0 hall hz0 c0 c1 c2 h0 g0 q0 z0
    obtain ⟨c0, c1, c2, h0, g0, q0⟩ := S1
    have S1 : SchAt w1 _ _ _ _ _ _ _ _ _ _ _ _ _ := ⟨c0, c1, c2, h0, g0, q0⟩
    go_wp2
    go_ret
    exact ⟨ret_b HE.out.symm, b1⟩
  by_cases h2 : (zs.length : Int) = sss.length
  case neg =>
    have HE : Hid (entryOk sss ccc ps zs = false) := by show _ = _; unfold entryOk; simp [h2]
    have h3 : ((zs.length : Int) != sss.length) = true := by rw [bne_iff_ne]; exact h2
    go_enter Try.func13, Try.ntmps13
    go_wp2_with fail
    (with_reducible refine (specSchoolOk _ _ _ _ _ _ _ _ _ _ _ _ _ h0 hn HX.out g0 hm HY.out q0 hl).mono ?_)
    rintro er w1 ⟨rfl, hb⟩
    rw [h1]
    have S1 := S0.below hb
    have z1 := z0.below hb
    have b1 := hall.trans (hb.mono hz0)
    have s1 := b1.size
    clear hb S0 hall hz0 c0 c1 c2 h0 g0 q0 z0
    obtain ⟨c0, c1, c2, h0, g0, q0⟩ := S1
    have S1 : SchAt w1 _ _ _ _ _ _ _ _ _ _ _ _ _ := ⟨c0, c1, c2, h0, g0, q0⟩
    go_wp2
    go_ret
    exact ⟨ret_b HE.out.symm, b1⟩
  have h3 : ((zs.length : Int) != sss.length) = false := by rw [bne_eq_false_iff_eq]; exact h2
  have H2 := Lib.hid h2
  have hFS := Lib.hid (school_facts h1)
  have f1 := (school_facts h1).n5
  have f2 := (school_facts h1).c3
  have f3 := (school_facts h1).c1
  have f4 : zs.length ≤ sss.length := by omega
  clear h2
  go_enter Try.func13, Try.ntmps13
  go_wp2_with fail
  (with_reducible refine (specSchoolOk _ _ _ _ _ _ _ _ _ _ _ _ _ h0 hn HX.out g0 hm HY.out q0 hl).mono ?_)
  rintro er w1 ⟨rfl, hb⟩
  rw [h1]
  have S1 := S0.below hb
  have z1 := z0.below hb
  have b1 := hall.trans (hb.mono hz0)
  have s1 := b1.size
  clear hb S0 hall hz0 c0 c1 c2 h0 g0 q0 z0
  obtain ⟨c0, c1, c2, h0, g0, q0⟩ := S1
  have S1 : SchAt w1 _ _ _ _ _ _ _ _ _ _ _ _ _ := ⟨c0, c1, c2, h0, g0, q0⟩
  have cc1 := c1
  go_wp2
  go_loop [6, 22] (fun _ i => ∃ k : Nat, k ≤ zs.length ∧ i = .int .i64 k ∧ (zs.take k).all (inB · (-1) ((ccc.length : Int) - 1)) = true) (fun _ i => zs.length - (intOf i).toNat)
  case atStart => exact ⟨0, Nat.zero_le _, rfl, by simp⟩
  case round =>
    obtain ⟨k, hk, rfl, hallr⟩ := hrel
    have HA := Lib.hid hallr
    clear hallr
    by_cases hlt : k < zs.length
    · obtain ⟨bz, oz, ez, _, hcz⟩ := z1.at_ hlt
      cases ez
      have kz := hcz k hlt
      clear hcz
      cases hv : inB (ix zs k) (-1) ((ccc.length : Int) - 1)
      · have HS := Lib.hid (all_ix_false (p := (inB · (-1) ((ccc.length : Int) - 1))) hlt hv)
        go_wp2_with (go_at_call 29; refine (l01In_any _ _ _ _).mono ?_; rintro e w' ⟨rfl, rfl⟩)
        go_ret
        exact ⟨ret_b (by unfold entryOk; rw [HS.out]; simp), b1⟩
      · have HN := Lib.hid (all_take_ix (p := (inB · (-1) ((ccc.length : Int) - 1))) hlt HA.out hv)
        go_wp2_with (go_at_call 29; refine (l01In_any _ _ _ _).mono ?_; rintro e w' ⟨rfl, rfl⟩)
        go_round
        case rel => exact ⟨k + 1, by omega, by go_num, HN.out⟩
        case measure => simp [intOf]; omega
    · obtain rfl : k = zs.length := by omega
      have h4 := HA.out
      rw [List.take_length] at h4
      have FE := Lib.hid (entry_facts0 h1 H2.out h4)
      have HF : Hid (entryOk sss ccc ps zs = entryPl ccc ps zs) := by show _ = _; unfold entryOk; rw [h1, h4, decide_eq_true H2.out]; rfl
      clear h4
      go_wp2_with fail
      (with_reducible refine (l21Filled_any _ _ _ _ _ _ _ _ _ _ _ _ _ _ _ _ _ h0 g0 q0 z1 FE.out).mono ?_)
      rintro er w3 ⟨A3, c3, rfl, of3, hb⟩
      have b3 := b1.trans (hb.mono s1)
      have s3 := b3.size
      have S3 := S1.below hb
      clear hb S1 b1 s1 c0 c1 c2 cc1 h0 g0 q0 z1
      obtain ⟨c0, c1, c2, h0, g0, q3⟩ := S3
      obtain ⟨gf, rfl, _, _⟩ := of3.head f3
      clear c0 c1
      go_wp2
      go_loop [7, 8, 38] (fun _ _ i => ∃ k : Nat, k ≤ ccc.length ∧ i = .int .i64 k ∧ allN (fun k => decide (ix (filledOf ccc zs) k ≤ ix ps k)) k = true) (fun _ _ i => ccc.length - (intOf i).toNat)
      case atStart => exact ⟨0, Nat.zero_le _, rfl, rfl⟩
      case round =>
        obtain ⟨k, hk, rfl, hallr⟩ := hrel
        have HA := Lib.hid hallr
        clear hallr
        by_cases hlt : k < ccc.length
        · obtain ⟨bp, op, ep, _, hcp⟩ := q3.at_ (show k < ps.length by have := FE.out.sch.pl; omega)
          cases ep
          have kp := hcp k (by have := FE.out.sch.pl; omega)
          have kf := of3.cellAt k hlt
          have i1 : k < ps.length := by have := FE.out.sch.pl; omega
          clear hcp
          by_cases hgt : ix ps k < ix (filledOf ccc zs) k
          · have HS : Hid (entryPl ccc ps zs = false) := allN_false (p := fun k => decide (ix (filledOf ccc zs) k ≤ ix ps k)) hlt (by simp; omega)
            go_wp2
            go_ret
            exact ⟨ret_b (by rw [HF.out, HS.out]), b3⟩
          · have HN := Lib.hid (allN_step (p := fun k => decide (ix (filledOf ccc zs) k ≤ ix ps k)) HA.out (by simp; omega))
            have hle : ix (filledOf ccc zs) k ≤ ix ps k := by omega
            clear hgt
            go_wp2
            go_round
            case rel => exact ⟨k + 1, by omega, by go_num, HN.out⟩
            case measure => simp [intOf]; omega
        · obtain rfl : k = ccc.length := by omega
          have HS : Hid (entryPl ccc ps zs = true) := HA.out
          go_wp2
          go_ret
          exact ⟨ret_b (by rw [HF.out, HS.out]), b3⟩
end Go.Proofs.Ytmakbndlobaaaaa
