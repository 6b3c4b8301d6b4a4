/- Schools: the check. -/
import Derived.Test.YtmakbndlobaaaaaMarket
namespace Go.Proofs.Ytmakbndlobaaaaa
set_option linter.unusedVariables false
open Go.RowKit

structure SchAt (w : World) (g : Nat) (A : Option Addr) (n c : Nat) (sss : List (List Int)) (B : Option Addr) (m d : Nat) (ccc : List (List Int)) (C : Option Addr) (l e : Nat) (ps : List Int) : Prop where
  c0 : w.cell? ⟨g, 0, none⟩ = some (.slice A n c)
  c1 : w.cell? ⟨g, 1, none⟩ = some (.slice B m d)
  c2 : w.cell? ⟨g, 2, none⟩ = some (.slice C l e)
  stu : RowsAt w A n sss
  col : RowsAt w B m ccc
  pla : IntsAt w C l ps
section
variable {w w' : World} {g : Nat} {A : Option Addr} {n c : Nat} {sss : List (List Int)} {B : Option Addr} {m d : Nat} {ccc : List (List Int)} {C : Option Addr} {l e : Nat} {ps : List Int}
theorem SchAt.below (h : SchAt w g A n c sss B m d ccc C l e ps) (hb : Below w.heap.size w w') : SchAt w' g A n c sss B m d ccc C l e ps :=
  ⟨cell_carry hb h.c0, cell_carry hb h.c1, cell_carry hb h.c2, h.stu.below hb, h.col.below hb, h.pla.below hb⟩
theorem SchAt.new (h : RowsAt w A n sss) (g : RowsAt w B m ccc) (q : IntsAt w C l ps) (T : TypeId) :
    SchAt (w.alloc (.cells #[.slice A n c, .slice B m d, .slice C l e] T)) w.heap.size A n c sss B m d ccc C l e ps :=
  ⟨(new_triple w _ _ _ T rfl).1, (new_triple w _ _ _ T rfl).2.1, (new_triple w _ _ _ T rfl).2.2, h.below (triple_below _ _ _ _ _), g.below (triple_below _ _ _ _ _), q.below (triple_below _ _ _ _ _)⟩
end
/-- from 1 to 5 students, from 1 to 3 colleges, each list a ranking of the others, a number of places from 0 to 5 for each college -/
def schoolOk (sss ccc : List (List Int)) (ps : List Int) : Bool :=
  inB sss.length 1 5 && inB ccc.length 1 3 && listsOk ccc.length sss && listsOk sss.length ccc && decide ((ps.length : Int) = ccc.length) && ps.all (inB · 0 5)
structure SchoolF (sss ccc : List (List Int)) (ps : List Int) : Prop where
  n1 : 1 ≤ sss.length
  n5 : sss.length ≤ 5
  c1 : 1 ≤ ccc.length
  c3 : ccc.length ≤ 3
  sr : ∀ i, i < sss.length → rankOk ccc.length (rx sss i) = true
  cr : ∀ i, i < ccc.length → rankOk sss.length (rx ccc i) = true
  pl : ps.length = ccc.length
  pb : ∀ i, i < ccc.length → 0 ≤ ix ps i ∧ ix ps i ≤ 5
theorem school_facts {sss ccc : List (List Int)} {ps : List Int} (h : schoolOk sss ccc ps = true) : SchoolF sss ccc ps := by
  unfold schoolOk listsOk at h
  simp only [Bool.and_eq_true, inB_iff, decide_eq_true_eq, List.all_eq_true] at h
  obtain ⟨⟨⟨⟨⟨h1, h2⟩, h3⟩, h4⟩, h5⟩, h6⟩ := h
  exact ⟨by omega, by omega, by omega, by omega, fun i hi => h3 _ (rx_mem hi), fun i hi => h4 _ (rx_mem hi), by omega, fun i hi => h6 _ (ix_mem (by omega))⟩
set_option maxHeartbeats 1000000 in
theorem implSchoolOk (A : Option Addr) (n c : Nat) (sss : List (List Int)) (B : Option Addr) (m d : Nat) (ccc : List (List Int)) (C : Option Addr) (l e : Nat) (ps : List Int) (w : World) (h : RowsAt w A n sss) (hn : n ≤ 1048576) (hx : ∀ xs ∈ sss, xs.length ≤ 1048576)
    (g : RowsAt w B m ccc) (hm : m ≤ 1048576) (hy : ∀ xs ∈ ccc, xs.length ≤ 1048576) (q : IntsAt w C l ps) (hl : l ≤ 1048576) :
    Calls Try.prog 11 #[.agg #[.slice A n c, .slice B m d, .slice C l e]] w fun e w' => e = .returned (.bool (schoolOk sss ccc ps)) ∧ Below w.heap.size w w' := by
  obtain rfl := h.len
  obtain rfl := g.len
  obtain rfl := q.len
  have HX := Lib.hid hx
  have HY := Lib.hid hy
  clear hx hy
  have hall := triple_below w (.slice A sss.length c) (.slice B ccc.length d) (.slice C ps.length e) 28
  have hz0 := hall.size
  have S0 := SchAt.new h g q (c := c) (d := d) (e := e) 28
  cases h1 : inB sss.length 1 5
  · have HE : Hid (schoolOk sss ccc ps = false) := by show _ = _; unfold schoolOk; simp [h1]
    go_enter Try.func11, Try.ntmps11
    go_wp2
    generalize w.alloc (.cells #[.slice A sss.length c, .slice B ccc.length d, .slice C ps.length e] 28) = W0 at *
    obtain ⟨c0, c1, c2, h0, g0, q0⟩ := S0
    go_quiet (fail)
    have b1 : Below w.heap.size w (W0.drewN nq) := hall.trans (below_of_drewN rfl)
    have S1 : SchAt (W0.drewN nq) _ _ _ _ _ _ _ _ _ _ _ _ _ := ⟨c0, c1, c2, h0, g0, q0⟩
    clear c0 c1 c2 h0 g0 q0 hall hz0
    generalize W0.drewN nq = W1 at *
    have z1 := b1.size
    obtain ⟨c0, c1, c2, h0, g0, q0⟩ := S1
    have S1 : SchAt W1 _ _ _ _ _ _ _ _ _ _ _ _ _ := ⟨c0, c1, c2, h0, g0, q0⟩
    go_wp2_with (go_at_call 32; refine (within_any _ _ _ _).mono ?_; rintro e w' ⟨rfl, rfl⟩)
    go_ret
    exact ⟨ret_b HE.out.symm, b1⟩
  cases h2 : inB ccc.length 1 3
  · have HE : Hid (schoolOk sss ccc ps = false) := by show _ = _; unfold schoolOk; simp [h2]
    go_enter Try.func11, Try.ntmps11
    go_wp2
    generalize w.alloc (.cells #[.slice A sss.length c, .slice B ccc.length d, .slice C ps.length e] 28) = W0 at *
    obtain ⟨c0, c1, c2, h0, g0, q0⟩ := S0
    go_quiet (fail)
    have b1 : Below w.heap.size w (W0.drewN nq) := hall.trans (below_of_drewN rfl)
    have S1 : SchAt (W0.drewN nq) _ _ _ _ _ _ _ _ _ _ _ _ _ := ⟨c0, c1, c2, h0, g0, q0⟩
    clear c0 c1 c2 h0 g0 q0 hall hz0
    generalize W0.drewN nq = W1 at *
    have z1 := b1.size
    obtain ⟨c0, c1, c2, h0, g0, q0⟩ := S1
    have S1 : SchAt W1 _ _ _ _ _ _ _ _ _ _ _ _ _ := ⟨c0, c1, c2, h0, g0, q0⟩
    go_wp2_with (go_at_call 32; refine (within_any _ _ _ _).mono ?_; rintro e w' ⟨rfl, rfl⟩)
    go_ret
    exact ⟨ret_b HE.out.symm, b1⟩
  cases h3 : listsOk ccc.length sss
  · have HE : Hid (schoolOk sss ccc ps = false) := by show _ = _; unfold schoolOk; simp [h3]
    go_enter Try.func11, Try.ntmps11
    go_wp2
    generalize w.alloc (.cells #[.slice A sss.length c, .slice B ccc.length d, .slice C ps.length e] 28) = W0 at *
    obtain ⟨c0, c1, c2, h0, g0, q0⟩ := S0
    go_quiet (fail)
    have b1 : Below w.heap.size w (W0.drewN nq) := hall.trans (below_of_drewN rfl)
    have S1 : SchAt (W0.drewN nq) _ _ _ _ _ _ _ _ _ _ _ _ _ := ⟨c0, c1, c2, h0, g0, q0⟩
    clear c0 c1 c2 h0 g0 q0 hall hz0
    generalize W0.drewN nq = W1 at *
    have z1 := b1.size
    obtain ⟨c0, c1, c2, h0, g0, q0⟩ := S1
    have S1 : SchAt W1 _ _ _ _ _ _ _ _ _ _ _ _ _ := ⟨c0, c1, c2, h0, g0, q0⟩
    go_wp2_with (go_at_call 32; refine (within_any _ _ _ _).mono ?_; rintro e w' ⟨rfl, rfl⟩)
    (with_reducible refine (areRankings_any _ _ _ _ _ _ h0 hn HX.out).mono ?_)
    rintro e w2 ⟨rfl, hb⟩
    rw [h3]
    have S2 := S1.below hb
    have b2 := b1.trans (hb.mono z1)
    have z2 := b2.size
    clear hb b1 S1 c0 c1 c2 h0 g0 q0
    obtain ⟨c0, c1, c2, h0, g0, q0⟩ := S2
    have S2 : SchAt w2 _ _ _ _ _ _ _ _ _ _ _ _ _ := ⟨c0, c1, c2, h0, g0, q0⟩
    go_wp2_with fail
    go_ret
    exact ⟨ret_b HE.out.symm, b2⟩
  cases h4 : listsOk sss.length ccc
  · have HE : Hid (schoolOk sss ccc ps = false) := by show _ = _; unfold schoolOk; simp [h4]
    go_enter Try.func11, Try.ntmps11
    go_wp2
    generalize w.alloc (.cells #[.slice A sss.length c, .slice B ccc.length d, .slice C ps.length e] 28) = W0 at *
    obtain ⟨c0, c1, c2, h0, g0, q0⟩ := S0
    go_quiet (fail)
    have b1 : Below w.heap.size w (W0.drewN nq) := hall.trans (below_of_drewN rfl)
    have S1 : SchAt (W0.drewN nq) _ _ _ _ _ _ _ _ _ _ _ _ _ := ⟨c0, c1, c2, h0, g0, q0⟩
    clear c0 c1 c2 h0 g0 q0 hall hz0
    generalize W0.drewN nq = W1 at *
    have z1 := b1.size
    obtain ⟨c0, c1, c2, h0, g0, q0⟩ := S1
    have S1 : SchAt W1 _ _ _ _ _ _ _ _ _ _ _ _ _ := ⟨c0, c1, c2, h0, g0, q0⟩
    go_wp2_with (go_at_call 32; refine (within_any _ _ _ _).mono ?_; rintro e w' ⟨rfl, rfl⟩)
    (with_reducible refine (areRankings_any _ _ _ _ _ _ h0 hn HX.out).mono ?_)
    rintro e w2 ⟨rfl, hb⟩
    rw [h3]
    have S2 := S1.below hb
    have b2 := b1.trans (hb.mono z1)
    have z2 := b2.size
    clear hb b1 S1 c0 c1 c2 h0 g0 q0
    obtain ⟨c0, c1, c2, h0, g0, q0⟩ := S2
    have S2 : SchAt w2 _ _ _ _ _ _ _ _ _ _ _ _ _ := ⟨c0, c1, c2, h0, g0, q0⟩
    go_wp2_with fail
    (with_reducible refine (areRankings_any _ _ _ _ _ _ g0 hm HY.out).mono ?_)
    rintro e w3 ⟨rfl, hb⟩
    rw [h4]
    have S3 := S2.below hb
    have b3 := b2.trans (hb.mono z2)
    have z3 := b3.size
    clear hb b2 S2 c0 c1 c2 h0 g0 q0
    obtain ⟨c0, c1, c2, h0, g0, q0⟩ := S3
    go_wp2_with fail
    go_ret
    exact ⟨ret_b HE.out.symm, b3⟩
  by_cases h5 : (ps.length : Int) = ccc.length
  case neg =>
    have HE : Hid (schoolOk sss ccc ps = false) := by show _ = _; unfold schoolOk; simp [h5]
    have h6 : ((ps.length : Int) == ccc.length) = false := by rw [beq_eq_false_iff_ne]; exact h5
    go_enter Try.func11, Try.ntmps11
    go_wp2
    generalize w.alloc (.cells #[.slice A sss.length c, .slice B ccc.length d, .slice C ps.length e] 28) = W0 at *
    obtain ⟨c0, c1, c2, h0, g0, q0⟩ := S0
    go_quiet (fail)
    have b1 : Below w.heap.size w (W0.drewN nq) := hall.trans (below_of_drewN rfl)
    have S1 : SchAt (W0.drewN nq) _ _ _ _ _ _ _ _ _ _ _ _ _ := ⟨c0, c1, c2, h0, g0, q0⟩
    clear c0 c1 c2 h0 g0 q0 hall hz0
    generalize W0.drewN nq = W1 at *
    have z1 := b1.size
    obtain ⟨c0, c1, c2, h0, g0, q0⟩ := S1
    have S1 : SchAt W1 _ _ _ _ _ _ _ _ _ _ _ _ _ := ⟨c0, c1, c2, h0, g0, q0⟩
    go_wp2_with (go_at_call 32; refine (within_any _ _ _ _).mono ?_; rintro e w' ⟨rfl, rfl⟩)
    (with_reducible refine (areRankings_any _ _ _ _ _ _ h0 hn HX.out).mono ?_)
    rintro e w2 ⟨rfl, hb⟩
    rw [h3]
    have S2 := S1.below hb
    have b2 := b1.trans (hb.mono z1)
    have z2 := b2.size
    clear hb b1 S1 c0 c1 c2 h0 g0 q0
    obtain ⟨c0, c1, c2, h0, g0, q0⟩ := S2
    have S2 : SchAt w2 _ _ _ _ _ _ _ _ _ _ _ _ _ := ⟨c0, c1, c2, h0, g0, q0⟩
    go_wp2_with fail
    (with_reducible refine (areRankings_any _ _ _ _ _ _ g0 hm HY.out).mono ?_)
    rintro e w3 ⟨rfl, hb⟩
    rw [h4]
    have S3 := S2.below hb
    have b3 := b2.trans (hb.mono z2)
    have z3 := b3.size
    clear hb b2 S2 c0 c1 c2 h0 g0 q0
    obtain ⟨c0, c1, c2, h0, g0, q0⟩ := S3
    go_wp2_with fail
    go_ret
    exact ⟨ret_b HE.out.symm, b3⟩
  have h6 : ((ps.length : Int) == ccc.length) = true := by rw [beq_iff_eq]; exact h5
  have HE : Hid (schoolOk sss ccc ps = ps.all (inB · 0 5)) := by show _ = _; unfold schoolOk; rw [h1, h2, h3, h4, decide_eq_true h5]; rfl
  clear h5
  go_enter Try.func11, Try.ntmps11
  go_wp2
  generalize w.alloc (.cells #[.slice A sss.length c, .slice B ccc.length d, .slice C ps.length e] 28) = W0 at *
  obtain ⟨c0, c1, c2, h0, g0, q0⟩ := S0
  go_quiet (fail)
  have b1 : Below w.heap.size w (W0.drewN nq) := hall.trans (below_of_drewN rfl)
  have S1 : SchAt (W0.drewN nq) _ _ _ _ _ _ _ _ _ _ _ _ _ := ⟨c0, c1, c2, h0, g0, q0⟩
  clear c0 c1 c2 h0 g0 q0 hall hz0
  generalize W0.drewN nq = W1 at *
  have z1 := b1.size
  obtain ⟨c0, c1, c2, h0, g0, q0⟩ := S1
  have S1 : SchAt W1 _ _ _ _ _ _ _ _ _ _ _ _ _ := ⟨c0, c1, c2, h0, g0, q0⟩
  go_wp2_with (go_at_call 32; refine (within_any _ _ _ _).mono ?_; rintro e w' ⟨rfl, rfl⟩)
  (with_reducible refine (areRankings_any _ _ _ _ _ _ h0 hn HX.out).mono ?_)
  rintro e w2 ⟨rfl, hb⟩
  rw [h3]
  have S2 := S1.below hb
  have b2 := b1.trans (hb.mono z1)
  have z2 := b2.size
  clear hb b1 S1 c0 c1 c2 h0 g0 q0
  obtain ⟨c0, c1, c2, h0, g0, q0⟩ := S2
  have S2 : SchAt w2 _ _ _ _ _ _ _ _ _ _ _ _ _ := ⟨c0, c1, c2, h0, g0, q0⟩
  go_wp2_with fail
  (with_reducible refine (areRankings_any _ _ _ _ _ _ g0 hm HY.out).mono ?_)
  rintro e w3 ⟨rfl, hb⟩
  rw [h4]
  have S3 := S2.below hb
  have b3 := b2.trans (hb.mono z2)
  have z3 := b3.size
  clear hb b2 S2 c0 c1 c2 h0 g0 q0
  obtain ⟨c0, c1, c2, h0, g0, q0⟩ := S3
  go_wp2_with fail
  (with_reducible refine (allWithin_any _ _ _ _ _ _ _ q0 (by omega)).mono ?_)
  rintro e w4 ⟨rfl, hb⟩
  have b4 := b3.trans (hb.mono z3)
  clear hb b3 c0 c1 c2 h0 g0 q0
  go_wp2
  go_ret
  exact ⟨ret_b HE.out.symm, b4⟩
set_option maxHeartbeats 1000000 in
theorem specSchoolOk (A : Option Addr) (n c : Nat) (sss : List (List Int)) (B : Option Addr) (m d : Nat) (ccc : List (List Int)) (C : Option Addr) (l e : Nat) (ps : List Int) (w : World) (h : RowsAt w A n sss) (hn : n ≤ 1048576) (hx : ∀ xs ∈ sss, xs.length ≤ 1048576)
    (g : RowsAt w B m ccc) (hm : m ≤ 1048576) (hy : ∀ xs ∈ ccc, xs.length ≤ 1048576) (q : IntsAt w C l ps) (hl : l ≤ 1048576) :
    Calls Try.prog 9 #[.agg #[.slice A n c, .slice B m d, .slice C l e]] w fun e w' => e = .returned (.bool (schoolOk sss ccc ps)) ∧ Below w.heap.size w w' := by
  obtain rfl := h.len
  obtain rfl := g.len
  obtain rfl := q.len
  have HX := Lib.hid hx
  have HY := Lib.hid hy
  clear hx hy
  have hall := triple_below w (.slice A sss.length c) (.slice B ccc.length d) (.slice C ps.length e) 28
  have hz0 := hall.size
  have S0 := SchAt.new h g q (c := c) (d := d) (e := e) 28
  obtain ⟨c0, c1, c2, h0, g0, q0⟩ := S0
  cases h1 : inB sss.length 1 5
  · have HE : Hid (schoolOk sss ccc ps = false) := by show _ = _; unfold schoolOk; simp [h1]
    go_enter Try.func9, Try.ntmps9
    go_wp2_with (go_at_call 29; refine (l01In_any _ _ _ _).mono ?_; rintro e w' ⟨rfl, rfl⟩)
    go_ret
    exact ⟨ret_b HE.out.symm, hall⟩
  cases h2 : inB ccc.length 1 3
  · have HE : Hid (schoolOk sss ccc ps = false) := by show _ = _; unfold schoolOk; simp [h2]
    go_enter Try.func9, Try.ntmps9
    go_wp2_with (go_at_call 29; refine (l01In_any _ _ _ _).mono ?_; rintro e w' ⟨rfl, rfl⟩)
    go_ret
    exact ⟨ret_b HE.out.symm, hall⟩
  by_cases h5 : (ps.length : Int) = ccc.length
  case neg =>
    have HE : Hid (schoolOk sss ccc ps = false) := by show _ = _; unfold schoolOk; simp [h5]
    have h6 : ((ps.length : Int) != ccc.length) = true := by rw [bne_iff_ne]; exact h5
    go_enter Try.func9, Try.ntmps9
    go_wp2_with (go_at_call 29; refine (l01In_any _ _ _ _).mono ?_; rintro e w' ⟨rfl, rfl⟩)
    go_ret
    exact ⟨ret_b HE.out.symm, hall⟩
  have h6 : ((ps.length : Int) != ccc.length) = false := by rw [bne_eq_false_iff_eq]; exact h5
  have HE : Hid (schoolOk sss ccc ps = (listsOk ccc.length sss && listsOk sss.length ccc && ps.all (inB · 0 5))) := by show _ = _; unfold schoolOk; rw [h1, h2, decide_eq_true h5]; simp
  have n1 := inB_iff.1 h1
  have n2 := inB_iff.1 h2
  have pl1 : ps.length ≤ ccc.length := by omega
  have pl2 : ccc.length ≤ ps.length := by omega
  clear h5
  go_enter Try.func9, Try.ntmps9
  go_wp2_with (go_at_call 29; refine (l01In_any _ _ _ _).mono ?_; rintro e w' ⟨rfl, rfl⟩)
  clear h6 h1 h2
  generalize w.alloc (.cells #[.slice A sss.length c, .slice B ccc.length d, .slice C ps.length e] 28) = W0 at *
  go_loopw [6, 33] (fun _ i wr => ∃ k : Nat, k ≤ sss.length ∧ i = .int .i64 k ∧ (sss.take k).all (rankOk ccc.length) = true ∧ Below W0.heap.size W0 wr) (fun _ i _ => sss.length - (intOf i).toNat)
  case atStart => exact ⟨0, Nat.zero_le _, rfl, by simp, Below.refl _ _⟩
  case round =>
    obtain ⟨k, hk, rfl, hallr, hb⟩ := hrel
    have HA := Lib.hid hallr
    clear hallr
    have zr := hb.size
    by_cases hlt : k < sss.length
    · clear c0 c1 c2
      obtain ⟨b, o, A', c', rfl, _, hck, hcc, hin⟩ := (h0.below hb).at_ hlt
      have hlen := HX.out _ (rx_mem hlt)
      cases hv : rankOk ccc.length (rx sss k)
      · have HS := Lib.hid (all_rx_false (p := rankOk ccc.length) hlt hv)
        go_wp2_with fail
        (with_reducible refine (specRankingOk _ _ _ _ _ _ hin hlen hcc).mono ?_)
        rintro e w' ⟨rfl, hb'⟩
        have hb2 := hall.trans ((hb.trans (hb'.mono zr)).mono hz0)
        clear hb hb'
        rw [hv]
        go_wp2
        go_ret
        exact ⟨ret_b (by rw [HE.out]; unfold listsOk; rw [HS.out]; rfl), hb2⟩
      · have HN := Lib.hid (all_take_rx (p := rankOk ccc.length) hlt HA.out hv)
        go_wp2_with fail
        (with_reducible refine (specRankingOk _ _ _ _ _ _ hin hlen hcc).mono ?_)
        rintro e w' ⟨rfl, hb'⟩
        have hb2 := hb.trans (hb'.mono zr)
        clear hb hb'
        rw [hv]
        go_wp2
        go_roundw
        case rel => exact ⟨k + 1, by omega, by go_num, HN.out, hb2⟩
        case measure => simp [intOf]; omega
    · obtain rfl : k = sss.length := by omega
      have HA2 := HA.out
      rw [List.take_length] at HA2
      have HF := Lib.hid HA2
      clear HA2 HA
      have d1 := cell_carry hb c1
      have d2 := cell_carry hb c2
      have g1 := g0.below hb
      have q1 := q0.below hb
      have b1 := hall.trans (hb.mono hz0)
      have z1 := b1.size
      clear c0 c1 c2 hb h0 g0 q0 hall hz0
      obtain ⟨wo, rfl⟩ : ∃ wo, wo = wr := ⟨_, rfl⟩
      go_wp2
      go_loopw [7, 8, 45] (fun _ _ i wr => ∃ k : Nat, k ≤ ccc.length ∧ i = .int .i64 k ∧ (ccc.take k).all (rankOk sss.length) = true ∧ (ps.take k).all (inB · 0 5) = true ∧ Below wo.heap.size wo wr) (fun _ _ i _ => ccc.length - (intOf i).toNat)
      case atStart => exact ⟨0, Nat.zero_le _, rfl, by simp, by simp, Below.refl _ _⟩
      case round =>
        obtain ⟨k, hk, rfl, hallr, hallp, hb⟩ := hrel
        have HA := Lib.hid hallr
        have HB := Lib.hid hallp
        clear hallr hallp
        have zr := hb.size
        by_cases hlt : k < ccc.length
        · have e2 := cell_carry hb d2
          clear d1 d2
          obtain ⟨b, o, A', c', rfl, _, hck, hcc, hin⟩ := (g1.below hb).at_ hlt
          obtain ⟨bp, op, rfl, _, hcp⟩ := (q1.below hb).at_ (show k < ps.length by omega)
          have kp := hcp k (by omega)
          have i3 : k < ps.length := by omega
          clear hcp
          have hlen := HY.out _ (rx_mem hlt)
          cases hv : rankOk sss.length (rx ccc k)
          · have HS := Lib.hid (all_rx_false (p := rankOk sss.length) hlt hv)
            go_wp2_with fail
            (with_reducible refine (specRankingOk _ _ _ _ _ _ hin hlen hcc).mono ?_)
            rintro e w' ⟨rfl, hb'⟩
            have hb2 := b1.trans ((hb.trans (hb'.mono zr)).mono z1)
            clear hb hb' e2
            rw [hv]
            go_wp2
            go_ret
            exact ⟨ret_b (by rw [HE.out]; unfold listsOk; rw [HS.out]; simp), hb2⟩
          have HN := Lib.hid (all_take_rx (p := rankOk sss.length) hlt HA.out hv)
          cases hp : inB (ix ps k) 0 5
          · have HS := Lib.hid (all_ix_false (p := (inB · 0 5)) i3 hp)
            go_wp2_with fail
            (with_reducible refine (specRankingOk _ _ _ _ _ _ hin hlen hcc).mono ?_)
            rintro e w' ⟨rfl, hb'⟩
            have hb2 := b1.trans ((hb.trans (hb'.mono zr)).mono z1)
            have e3 := cell_carry hb' e2
            have kp2 := cell_carry hb' kp
            clear hb hb' e2 kp hck
            rw [hv]
            go_wp2_with (go_at_call 29; refine (l01In_any _ _ _ _).mono ?_; rintro e w' ⟨rfl, rfl⟩)
            go_ret
            exact ⟨ret_b (by rw [HE.out, HS.out]; simp), hb2⟩
          · have HM := Lib.hid (all_take_ix (p := (inB · 0 5)) i3 HB.out hp)
            go_wp2_with fail
            (with_reducible refine (specRankingOk _ _ _ _ _ _ hin hlen hcc).mono ?_)
            rintro e w' ⟨rfl, hb'⟩
            have hb2 := hb.trans (hb'.mono zr)
            have e3 := cell_carry hb' e2
            have kp2 := cell_carry hb' kp
            clear hb hb' e2 kp hck
            rw [hv]
            go_wp2_with (go_at_call 29; refine (l01In_any _ _ _ _).mono ?_; rintro e w' ⟨rfl, rfl⟩)
            go_roundw
            case rel => exact ⟨k + 1, by omega, by go_num, HN.out, HM.out, hb2⟩
            case measure => simp [intOf]; omega
        · obtain rfl : k = ccc.length := by omega
          have HG : Hid (schoolOk sss ccc ps = true) := by
            show _ = _
            have h1 := HA.out
            have h2 := HB.out
            rw [List.take_length] at h1
            rw [List.take_of_length_le pl1] at h2
            rw [HE.out]
            unfold listsOk
            rw [HF.out, h1, h2]
            rfl
          go_wp2
          go_ret
          exact ⟨ret_b HG.out.symm, b1.trans (hb.mono z1)⟩
end Go.Proofs.Ytmakbndlobaaaaa
