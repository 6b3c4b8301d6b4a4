/- The program's CountFairBy: a range over the iterator of OdoW. -/
import Derived.Test.YtoajmckhfnaifaaOdoW
import Derived.Test.YtoajmckhfnaifaaTied
import Derived.Shelf.Abstract
import Derived.LoopNIn
import Derived.LoopIn
import Derived.Stop.RegionWithIn
import Derived.RangeFuncCalls
namespace Go.Proofs.Ytoajmckhfnaifaa
set_option linter.unusedVariables false
open Go.RowKit Go.Shelf
attribute [local go_sem] Oper.semAt_some

def okF (m : Int) (xs : List Int) (kn : Nat) (l : List Nat) : Bool := l.sum == kn && fairAll m xs (toI l)
def cntP (m : Int) (xs : List Int) (kn : Nat) (pre : List (Value × List Nat)) : Nat := (pre.map (·.2)).countP (okF m xs kn)
theorem cntP_snoc (m : Int) (xs : List Int) (kn : Nat) (pre : List (Value × List Nat)) (x : Value × List Nat) : cntP m xs kn (pre ++ [x]) = cntP m xs kn pre + (if okF m xs kn x.2 then 1 else 0) := by
  unfold cntP; rw [List.map_append, List.countP_append]; simp [List.countP_cons, List.countP_nil]
theorem cntP_le (m : Int) (xs : List Int) (kn : Nat) (pre : List (Value × List Nat)) : cntP m xs kn pre ≤ pre.length := by
  unfold cntP; have := List.countP_le_length (p := okF m xs kn) (l := pre.map (·.2)); rw [List.length_map] at this; exact this
theorem told_putL (n : Nat) (x : Value × List Nat) (W : World) (l : Nat) (o : Obj) (hl : ∃ r, W.heap[l]? = some (.loop r)) (h : toldL n x W) : toldL n x (W.putObj l o) := by
  obtain ⟨A, d, e, h, h20⟩ := h
  obtain ⟨r, hl⟩ := hl
  refine ⟨A, d, e, ⟨h.1, fun hn' => ?_⟩, h20⟩
  obtain ⟨b', o', e', hc'⟩ := h.2 hn'
  exact ⟨b', o', e', fun j hj => cell_kept (hc' j hj) (grownBy_putObj' W l o) (fun r e => by cases e; exact ⟨_, hl, rfl⟩)⟩
/-- what the rounds of CountFairBy know of the memory: the boxes and the count -/
structure FbAt (w : World) (b0 k0 : Nat) (m : Int) (A : Option Addr) (n cA : Nat) (k c : Int) (W : World) : Prop where
  c3 : W.cell? ⟨b0, 0, none⟩ = some (.int .i64 m)
  c4 : W.cell? ⟨b0 + 1, 0, none⟩ = some (.slice A n cA)
  c5 : W.cell? ⟨b0 + 2, 0, none⟩ = some (.int .i64 k)
  c : W.cell? ⟨k0, 0, none⟩ = some (.int .i64 c)
  f : W.frozen? ⟨k0, 0, none⟩ = false
  below : Below w.heap.size w W
theorem FbAt.later {w W W' : World} {b0 k0 n cA : Nat} {m k c : Int} {A : Option Addr} (h : FbAt w b0 k0 m A n cA k c W) (hb : Below W.heap.size W W') (hw : w.heap.size ≤ W.heap.size) : FbAt w b0 k0 m A n cA k c W' :=
  ⟨cell_carry hb h.c3, cell_carry hb h.c4, cell_carry hb h.c5, cell_carry hb h.c, (hb.frozen (p := ⟨k0, 0, none⟩) (cell_lt h.c)).trans h.f, h.below.trans (hb.mono hw)⟩
theorem FbAt.laterB {w W W' : World} {b0 k0 n cA B : Nat} {m k c : Int} {A : Option Addr} (h : FbAt w b0 k0 m A n cA k c W) (hb : Below B W W') (h0 : k0 < B) (h1 : b0 + 2 < B) (hw : w.heap.size ≤ B) : FbAt w b0 k0 m A n cA k c W' :=
  ⟨(hb.cell (p := ⟨b0, 0, none⟩) (by show b0 < B; omega)).trans h.c3, (hb.cell (p := ⟨b0 + 1, 0, none⟩) (by show b0 + 1 < B; omega)).trans h.c4, (hb.cell (p := ⟨b0 + 2, 0, none⟩) h1).trans h.c5, (hb.cell (p := ⟨k0, 0, none⟩) h0).trans h.c, (hb.frozen (p := ⟨k0, 0, none⟩) h0).trans h.f, h.below.trans (hb.mono hw)⟩
theorem FbAt.stored {w W : World} {b0 k0 n cA : Nat} {m k c : Int} {A : Option Addr} (h : FbAt w b0 k0 m A n cA k c W) (c' : Int) (h0 : b0 + 2 < k0) (hw : w.heap.size ≤ k0) : FbAt w b0 k0 m A n cA k c' (W.setCell ⟨k0, 0, none⟩ (.int .i64 c')) :=
  ⟨(World.cell?_of_block (Below.heap_setCell W ⟨k0, 0, none⟩ _ b0 (by show b0 ≠ k0; omega))).trans h.c3, (World.cell?_of_block (Below.heap_setCell W ⟨k0, 0, none⟩ _ (b0 + 1) (by show b0 + 1 ≠ k0; omega))).trans h.c4, (World.cell?_of_block (Below.heap_setCell W ⟨k0, 0, none⟩ _ (b0 + 2) (by show b0 + 2 ≠ k0; omega))).trans h.c5,
    World.cell?_setCell_same' _ _ _ (by rw [h.c]; rfl), by rw [World.frozen?_setCell]; exact h.f, h.below.setCell (p := ⟨k0, 0, none⟩) hw _⟩
theorem fb_grown {W W2 : World} {k0 : Nat} {v : Value} (hb : Below W.heap.size W W2) : W.grownBy (W2.setCell ⟨k0, 0, none⟩ v) (some k0) := by
  have g := grownBy_setCell' W2 k0 v
  refine ⟨g.os.trans hb.os, g.tape.trans hb.tape, g.output.trans hb.output, Nat.le_trans hb.size g.size, fun k h1 h2 => (g.block k (Nat.lt_of_lt_of_le h1 hb.size) h2).trans (hb.block k h1)⟩
theorem fb_grown0 {W W2 : World} {k0 : Nat} (hb : Below W.heap.size W W2) : W.grownBy W2 (some k0) := ⟨hb.os, hb.tape, hb.output, hb.size, fun k h1 _ => hb.block k h1⟩
set_option maxRecDepth 100000 in
set_option maxHeartbeats 4000000 in
theorem implCountFairBy (m : Int) (A : Option Addr) (n cA : Nat) (xs : List Int) (k : Int) (w : World) (h : IntsAt w A n xs) (hn : n ≤ 1048576) :
    Calls Try.prog 11 #[.int .i64 m, .slice A n cA, .int .i64 k] w fun e w' => e = .returned (.int .i64 (cntF m xs k)) ∧ Below w.heap.size w w' := by
  obtain rfl := h.len
  refine (callsIn_wide (n := 6)).1 (callsIn_of_wp_marks Try.func11 rfl trivial ?_ rfl)
  simp only [Try.ntmps11, List.size_toArray, List.length_cons, List.length_nil, Nat.reduceAdd, Nat.reduceSub, Array.replicate_succ, Array.replicate_zero, List.push_toArray, List.append_toArray, List.nil_append, List.cons_append]
  refine (wpIn_wide (n := 6)).2 ?_
  have ha1 := (Below.refl w.heap.size w).alloc (Nat.le_refl _) (.cells #[.int .i64 m] 3)
  have c3 := new_cell w (.int .i64 m) 3 rfl
  obtain ⟨w1, hw1⟩ : ∃ w1, w.alloc (.cells #[.int .i64 m] 3) = w1 := ⟨_, rfl⟩
  have z1 : w1.heap.size = w.heap.size + 1 := by rw [← hw1]; simp
  rw [hw1] at ha1 c3
  have ha2 := (Below.refl w1.heap.size w1).alloc (Nat.le_refl _) (.cells #[.slice A xs.length cA] 23)
  have c4 := new_cell w1 (.slice A xs.length cA) 23 rfl
  obtain ⟨w2, hw2⟩ : ∃ w2, w1.alloc (.cells #[.slice A xs.length cA] 23) = w2 := ⟨_, rfl⟩
  have z2 : w2.heap.size = w.heap.size + 2 := by rw [← hw2]; simp [z1]
  rw [hw2] at ha2 c4
  rw [z1] at c4
  have c3' := cell_carry ha2 c3
  have ha3 := (Below.refl w2.heap.size w2).alloc (Nat.le_refl _) (.cells #[.int .i64 k] 3)
  have c5 := new_cell w2 (.int .i64 k) 3 rfl
  obtain ⟨w3, hw3⟩ : ∃ w3, w2.alloc (.cells #[.int .i64 k] 3) = w3 := ⟨_, rfl⟩
  have z3 : w3.heap.size = w.heap.size + 3 := by rw [← hw3]; simp [z2]
  rw [hw3] at ha3 c5
  rw [z2] at c5
  have c33 := cell_carry ha3 c3'
  have c43 := cell_carry ha3 c4
  have hb3 : Below w.heap.size w w3 := ha1.trans ((ha2.mono (by omega)).trans (ha3.mono (by omega)))
  clear c3 c4 c3' ha1 ha2 ha3
  subst hw1
  subst hw2
  by_cases h3 : xs.length ≤ 3
  case neg =>
    have HR := Lib.hid (cntF_no (m := m) (xs := xs) (k := k) (by unfold fairAsk; rw [decide_eq_false h3]; simp))
    have t1 : (3 : Int) < (xs.length : Int) := by omega
    go_wp2
    exact ⟨_, results_tmp rfl _ _ _, by rw [HR.out]; rfl, hb3⟩
  case pos =>
  have h3' : (xs.length : Int) ≤ 3 := by omega
  by_cases h20 : k ≤ 20
  case neg =>
    have HR := Lib.hid (cntF_no (m := m) (xs := xs) (k := k) (by unfold fairAsk; rw [decide_eq_false h20]; simp))
    have t2 : (20 : Int) < k := by omega
    go_wp2
    exact ⟨_, results_tmp rfl _ _ _, by rw [HR.out]; rfl, hb3⟩
  case pos =>
  have hi3 := h.below hb3
  cases hq : seatsAskedB m xs k
  · have HR := Lib.hid (cntF_no (m := m) (xs := xs) (k := k) (by unfold fairAsk; rw [hq]; rfl))
    have K := Lib.hid (implSeatsBy_nil m A xs.length cA xs k w3 hi3 hn hq)
    clear hq
    go_wp2_with fail
    (with_reducible refine K.out.mono ?_)
    rintro e w4 ⟨rfl, hb4⟩
    have he := Lib.run_eql_slice_nil (P := Try.prog) w4 23 3 none 0 0 0 0 Try.underlying23
    simp only [Option.isNone_none] at he
    have hb5 := hb3.trans (hb4.mono (by omega))
    go_wp2
    exact ⟨_, results_tmp rfl _ _ _, by rw [HR.out]; rfl, hb5⟩
  · obtain ⟨m1, m5, k0', k100, n1, n6, hv⟩ := asked_facts hq
    have hask : fairAsk m xs k = true := by unfold fairAsk; rw [hq, decide_eq_true h3, decide_eq_true h20]; rfl
    have HR := Lib.hid (cntF_yes hask)
    have hcok : countsOk xs = true := by
      have := hq
      unfold seatsAskedB at this
      rw [Bool.and_eq_true] at this
      exact (quotaOk_facts this.2).1
    have HC := Lib.hid hcok
    have hl : (seatsBy m xs k).length = xs.length := by rw [seatsBy_yes hq, cntTo_len]
    have hl1 : 0 < (seatsBy m xs k).length := by omega
    have K := Lib.hid (implSeatsBy m A xs.length cA xs k w3 hi3 hn)
    clear hq hl hask hcok hv
    generalize seatsBy m xs k = ys at *
    obtain ⟨kn, rfl⟩ : ∃ kn : Nat, k = (kn : Int) := ⟨k.toNat, by omega⟩
    go_wp2_with fail
    (with_reducible refine K.out.mono ?_)
    rintro e w4 ⟨A4, c4', rfl, ho4, _, hb4⟩
    obtain ⟨g4, rfl, _, _⟩ := ho4.head hl1
    have he := Lib.run_eql_slice_nil (P := Try.prog) w4 23 3 (some ⟨g4, 0, none⟩) ys.length c4' 0 0 Try.underlying23
    simp only [Option.isNone_some] at he
    have hb5 := hb3.trans (hb4.mono (by omega))
    have hs4 := hb4.size
    have d3 := cell_carry hb4 c33
    have d4 := cell_carry hb4 c43
    have d5 := cell_carry hb4 c5
    have ha5 := (Below.refl w4.heap.size w4).alloc (Nat.le_refl _) (.cells #[.int .i64 0] 3)
    have e0 := new_cell w4 (.int .i64 0) 3 rfl
    have f0 := new_free w4 #[.int .i64 0] 3 rfl 0
    have z5 : (w4.alloc (.cells #[.int .i64 0] 3)).heap.size = w4.heap.size + 1 := by simp
    obtain ⟨k0, hk0⟩ : ∃ k0, w4.heap.size = k0 := ⟨_, rfl⟩
    rw [hk0] at e0 f0 z5 hs4
    have F5 : FbAt w w.heap.size k0 m A xs.length cA (kn : Int) 0 (w4.alloc (.cells #[.int .i64 0] 3)) :=
      ⟨cell_carry ha5 d3, cell_carry ha5 d4, cell_carry ha5 d5, e0, f0, hb5.trans (ha5.mono (by have := hb5.size; omega))⟩
    have g3 := F5.c3
    have g4_ := F5.c4
    have g5 := F5.c5
    clear ha5 d3 d4 d5 ho4 K hb4 hb3 z1
    go_wp2_with fail
    generalize w4.alloc (.cells #[.int .i64 0] 3) = w5 at *
    (with_reducible refine (lists_any (xs.length : Int) 0 (kn : Int) w5).mono ?_)
    rintro e w6 ⟨rfl, hw6⟩
    have ha6 : Below w5.heap.size w5 w6 := by rw [hw6]; exact (((Below.refl w5.heap.size w5).alloc (Nat.le_refl _) _).alloc (by simp) _).alloc (by simp; omega) _
    have z6 : w6.heap.size = k0 + 4 := by rw [hw6]; simp [z5]
    have p1 : w6.cell? ⟨k0 + 1, 0, none⟩ = some (.int .i64 (xs.length : Int)) := by
      rw [hw6]
      have a1 := new_cell w5 (.int .i64 (xs.length : Int)) 3 rfl
      have b1 := (Below.refl (w5.alloc (.cells #[.int .i64 (xs.length : Int)] 3)).heap.size (w5.alloc (.cells #[.int .i64 (xs.length : Int)] 3))).alloc (Nat.le_refl _) (.cells #[.int .i64 0] 3)
      have b2 := b1.alloc (by simp) (.cells #[.int .i64 (kn : Int)] 3)
      have := cell_carry b2 a1
      rw [z5] at this
      exact this
    have p2 : w6.cell? ⟨k0 + 2, 0, none⟩ = some (.int .i64 0) := by
      rw [hw6]
      have a1 := new_cell (w5.alloc (.cells #[.int .i64 (xs.length : Int)] 3)) (.int .i64 0) 3 rfl
      have b2 := (Below.refl ((w5.alloc (.cells #[.int .i64 (xs.length : Int)] 3)).alloc (.cells #[.int .i64 0] 3)).heap.size _).alloc (Nat.le_refl _) (.cells #[.int .i64 (kn : Int)] 3)
      have := cell_carry b2 a1
      rw [World.size_alloc, z5] at this
      exact this
    have p3 : w6.cell? ⟨k0 + 3, 0, none⟩ = some (.int .i64 (kn : Int)) := by
      rw [hw6]
      have a1 := new_cell ((w5.alloc (.cells #[.int .i64 (xs.length : Int)] 3)).alloc (.cells #[.int .i64 0] 3)) (.int .i64 (kn : Int)) 3 rfl
      rw [World.size_alloc, World.size_alloc, z5] at a1
      exact a1
    have F6 := F5.later ha6 (by omega)
    have hs5 := hb5.size
    have hseq := lists_seq xs.length kn n1 h3 (by omega) w6 (k0 + 2) (k0 + 1) (k0 + 3) k0 p2 p1 p3 (by omega) (by omega) (by omega) (by omega)
    have hw0 : w.heap.size + 2 < k0 := by omega
    simp only [z5]
    clear hw6 ha6 p1 p2 p3 g3 g4_ g5 F5 f0 e0 hk0 hs5 c33 c43 c5
    go_wp2_with fail
    refine (wpIn_wide (n := 6)).1 ?_
    refine wp_rangeC (n := 5) (gf := 40) (lb := #[.pointer (some ⟨k0 + 2, 0, none⟩), .pointer (some ⟨k0 + 1, 0, none⟩), .pointer (some ⟨k0 + 3, 0, none⟩)]) rfl (enters_of Try.func40 (by kernel_rfl) rfl) k0 (by omega) hseq
      (fun x W l o _ hl hg => told_putL xs.length x W l o hl hg) (Below.refl _ _) (fun _ => rfl)
      (fun pre W => FbAt w w.heap.size k0 m A xs.length cA (kn : Int) (cntP m xs kn pre : Int) W ∧ w6.heap.size ≤ W.heap.size)
      (fun _ _ _ => False)
      (fun pre A B hi hb => ⟨hi.1.laterB hb (by omega) (by omega) (by omega), Nat.le_trans hi.2 hb.size⟩)
      (fun _ _ _ _ _ hs _ _ => hs)
      ⟨F6, Nat.le_refl _⟩ (fun x => { tmps := #[.int .i64 m, .slice A xs.length cA, .int .i64 (kn : Int), .pointer (some ⟨w.heap.size, 0, none⟩), .pointer (some ⟨w.heap.size + 1, 0, none⟩), .pointer (some ⟨w.heap.size + 2, 0, none⟩), .int .i64 0, .pointer (some ⟨k0, 0, none⟩), x.1,
        .slice A xs.length cA, .int .i64 (xs.length : Int), .bool (decide ((3 : Int) < xs.length)), .bool (decide ((3 : Int) < xs.length)), .int .i64 (kn : Int), .bool (decide ((20 : Int) < kn)), .bool (decide ((3 : Int) < xs.length) || decide ((20 : Int) < kn)), .bool (decide ((3 : Int) < xs.length) || decide ((20 : Int) < kn)), .int .i64 m, .slice A xs.length cA, .int .i64 (kn : Int), .slice (some ⟨g4, 0, none⟩) ys.length c4', .bool false, .bool (decide ((3 : Int) < xs.length) || decide ((20 : Int) < kn)), .slice A xs.length cA, .int .i64 (xs.length : Int), .int .i64 (kn : Int),
        .func (.func 40) #[] #[.pointer (some ⟨k0 + 2, 0, none⟩), .pointer (some ⟨k0 + 1, 0, none⟩), .pointer (some ⟨k0 + 3, 0, none⟩)], x.1, undef, undef, undef, undef, undef, undef, undef, undef, undef, undef, undef, undef, undef], defers := [] }) ?assign ?body ?done ?stop
    case assign =>
      intro l x W K hK
      gi_wp2
      simpa using hK
    case body =>
      rintro l pre x W hs _ ⟨F, hsz⟩ hG hlen
      obtain ⟨Al, dl, ex, hil, hl20⟩ := hG
      have d3 := F.c3
      have d4 := F.c4
      have d5 := F.c5
      have hiW := h.below F.below
      have bd : ∀ y ∈ toI x.2, 0 ≤ y ∧ y ≤ 1000000000 := fun y hy => by
        obtain ⟨z, hz, rfl⟩ := List.mem_map.1 hy
        have := hl20 z hz
        omega
      have K1 := Lib.hid (sumOf_any Al xs.length dl (toI x.2) W.drew hil (by omega) bd)
      have K2 := Lib.hid (implIsFairBy m A xs.length cA xs Al xs.length dl (toI x.2) W.drew hiW hn hil hn)
      have hlen2 : x.2.length = xs.length := by have := hil.len; rw [toI_len] at this; exact this
      have hOK : Hid (x.2.sum = kn → isFair m xs (toI x.2) = fairAll m xs (toI x.2)) := fun hs => by
        show _ = _
        unfold isFair
        rw [full_ok HC.out hlen2 (by omega), inB_iff.2 ⟨m1, m5⟩]
        rfl
      rw [toI_sum] at K1
      have hcs := cntP_snoc m xs kn pre x
      have HCS := Lib.hid hcs
      have HFC := F.c
      have HFF := F.f
      have hcl := cntP_le m xs kn pre
      rw [ex]
      clear ex hil bd hcs hlen2
      have hdr : Below W.heap.size W W.drew := below_of_drewN (w' := W.drewN 1) rfl
      generalize Value.slice (some ⟨g4, 0, none⟩) ys.length c4' = u20
      generalize Value.func (.func 40) #[] #[.pointer (some ⟨k0 + 2, 0, none⟩), .pointer (some ⟨k0 + 1, 0, none⟩), .pointer (some ⟨k0 + 3, 0, none⟩)] = u26
      generalize Value.bool (decide ((3 : Int) < xs.length) || decide ((20 : Int) < kn)) = u15
      generalize Value.bool (decide ((3 : Int) < xs.length)) = u11
      generalize Value.bool (decide ((20 : Int) < kn)) = u14
      have FF := Lib.hid F
      rcases hsum : (x.2.sum == kn)
      case false =>
        have hsi : ((x.2.sum : Int) == (kn : Int)) = false := by
          rw [beq_eq_false_iff_ne] at hsum ⊢
          omega
        have HO : Hid (cntP m xs kn (pre ++ [x]) = cntP m xs kn pre) := by show _ = _; rw [HCS.out]; unfold okF; rw [hsum]; rfl
        clear hOK hsum HCS hcl HFC HFF hlen F hseq HC HR h hn hi3 h3 h3' h20 m1 m5 n1 n6 k0' k100 hiW hl20 hb5 hl1 hs4 he z2
        gi_wp2
        gi_region_with (first | (refine And.intro (show Fence.wide.fn _ from trivial) ?_) | ((with_reducible refine (CallsIn.inRound l (callsIn_wide.2 K1.out)).mono ?_); rintro e w' ⟨rfl, rfl⟩) | ((with_reducible refine (CallsIn.inRound l (callsIn_wide.2 K2.out)).mono ?_); rintro e w' ⟨rfl, hb⟩))
        all_goals
          gi_wp2
          exact ⟨fb_grown0 hdr, by rw [HO.out]; exact FF.out.later hdr (by omega), hsz⟩
      case true =>
        have hse : x.2.sum = kn := by simpa using hsum
        have hsi : ((x.2.sum : Int) == (kn : Int)) = true := by rw [hse]; simp
        have HOK := Lib.hid (hOK.out hse)
        rw [HOK.out] at K2
        obtain ⟨fb, hfb⟩ : ∃ fb, fairAll m xs (toI x.2) = fb := ⟨_, rfl⟩
        have HO : Hid (cntP m xs kn (pre ++ [x]) = cntP m xs kn pre + (if fb then 1 else 0)) := by
          show _ = _
          rw [HCS.out, ← hfb]
          unfold okF
          rw [hsum, Bool.true_and]
        rw [hfb] at K2
        clear hfb hOK hsum HCS hse HFC HFF HOK F hseq HC HR h hn hi3 h3 h3' h20 m1 m5 n1 n6 k0' k100 hiW hl20 hb5 hl1 hs4 he z2
        gi_wp2
        gi_region_with (first | (refine And.intro (show Fence.wide.fn _ from trivial) ?_) | ((with_reducible refine (CallsIn.inRound l (callsIn_wide.2 K1.out)).mono ?_); rintro e w' ⟨rfl, rfl⟩) | ((with_reducible refine (CallsIn.inRound l (callsIn_wide.2 K2.out)).mono ?_); rintro e w' ⟨rfl, hb⟩))
        all_goals
          have hbw := hdr.trans hb
          have F2 := FF.out.later hbw (by omega)
          have cc := F2.c
          have ff := F2.f
          have F3 := Lib.hid F2
          have hsz2 := hbw.size
          clear d3 d4 d5 F2 K1 K2 FF hdr z6 hs
          cases fb
          · gi_wp2
            exact ⟨fb_grown0 hbw, by rw [HO.out]; exact F3.out, by omega⟩
          · gi_wp2
            exact ⟨fb_grown hbw, by rw [HO.out]; exact F3.out.stored _ (by omega) (by omega), Nat.le_trans (Nat.le_trans hsz hsz2) (grownBy_setCell' _ _ _).size⟩
    case done =>
      rintro D xs' W hD hS ⟨F, hsz⟩ hK
      have hcnt : Hid (cntP m xs kn xs' = cntAll m xs (kn : Int)) := by
        show _ = _
        unfold cntP
        rw [hS]
        rfl
      have hc := F.c
      have hbl := F.below
      rw [hcnt.out] at hc
      clear hseq
      go_wp2
      refine ⟨by simp, .inl ⟨_, _, rfl, run_takeDeferred hK, ?_⟩⟩
      exact ⟨_, results_tmp rfl _ _ _, by rw [HR.out]; rfl, hbl.trans (below_putObj W D _ (by omega) hbl.size)⟩
    case stop =>
      rintro D c pre W _ _ h _
      exact h.elim
end Go.Proofs.Ytoajmckhfnaifaa
