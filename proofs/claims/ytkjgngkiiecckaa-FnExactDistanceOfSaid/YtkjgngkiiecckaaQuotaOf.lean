/- The quota of one party. -/
import Derived.Test.YtkjgngkiiecckaaQuotas
import Derived.Test.YtkjgngkiiecckaaFracs
import Derived.IntWalk
namespace Go.Proofs.Ytkjgngkiiecckaa
set_option linter.unusedVariables false
open Go.RowKit

def quotaOn (xs : List Int) (k i : Int) : Bool := quotaOk xs k && inB i 0 ((xs.length : Int) - 1)
def quotaTop (xs : List Int) (k i : Int) : Nat := if quotaOn xs k i then redTop (ix xs i.toNat * k).toNat (lsum xs).toNat else 0
def quotaBot (xs : List Int) (k i : Int) : Nat := if quotaOn xs k i then redBot (ix xs i.toNat * k).toNat (lsum xs).toNat else 0
def quotaGot (xs : List Int) (k i : Int) : Bool := quotaOn xs k i && redOk (ix xs i.toNat * k).toNat (lsum xs).toNat

theorem quota_facts {xs : List Int} {k i : Int} (hq : quotaOk xs k = true) (h : inB i 0 ((xs.length : Int) - 1) = true) :
    ∃ j t b : Nat, i = j ∧ j < xs.length ∧ ix xs j * k = t ∧ lsum xs = b ∧ t ≤ 100000000 ∧ 1 ≤ b ∧ b ≤ 6000000 ∧
      quotaTop xs k i = redTop t b ∧ quotaBot xs k i = redBot t b ∧ quotaGot xs k i = redOk t b := by
  have h2 := inB_iff.1 h
  obtain ⟨hc, k0, k1⟩ := quotaOk_facts hq
  obtain ⟨c1, c2, c3, c4, c5⟩ := countsOk_facts hc
  obtain ⟨j, rfl⟩ : ∃ j : Nat, i = j := ⟨i.toNat, by omega⟩
  have hj : j < xs.length := by omega
  have b1 := claim_bd (c3 _ (ix_mem hj)) k0 k1
  have hon : quotaOn xs k j = true := by unfold quotaOn; rw [hq, h]; rfl
  refine ⟨j, (ix xs j * k).toNat, (lsum xs).toNat, rfl, hj, by omega, by omega, by omega, by omega, by omega, ?_, ?_, ?_⟩
  · unfold quotaTop; rw [if_pos hon]; rfl
  · unfold quotaBot; rw [if_pos hon]; rfl
  · unfold quotaGot; rw [hon]; rfl

theorem pair_later {w W : World} {u v : Value} {T : TypeId} (hb : Below (w.heap.size + 1) (w.alloc (.cells #[u, v] T)) W) :
    W.cell? ⟨w.heap.size, 0, none⟩ = some u ∧ W.cell? ⟨w.heap.size, 1, none⟩ = some v ∧ W.frozen? ⟨w.heap.size, 0, none⟩ = false ∧ W.frozen? ⟨w.heap.size, 1, none⟩ = false := by
  have p := new_pair w u v T rfl
  exact ⟨(hb.cell (p := ⟨w.heap.size, 0, none⟩) (Nat.lt_succ_self _)).trans p.1, (hb.cell (p := ⟨w.heap.size, 1, none⟩) (Nat.lt_succ_self _)).trans p.2,
    (hb.frozen (p := ⟨w.heap.size, 0, none⟩) (Nat.lt_succ_self _)).trans (new_free w _ _ rfl 0), (hb.frozen (p := ⟨w.heap.size, 1, none⟩) (Nat.lt_succ_self _)).trans (new_free w _ _ rfl 1)⟩

theorem cell_carry {w w' : World} {p : Addr} {u : Value} (b : Below w.heap.size w w') (k : w.cell? p = some u) : w'.cell? p = some u := (b.cell (World.block_lt_of_cell? w _ k)).trans k
theorem pair_carry {w w' : World} {p0 p1 : Addr} {u v : Value} (b : Below w.heap.size w w') (k : w.cell? p0 = some u ∧ w.cell? p1 = some v) : w'.cell? p0 = some u ∧ w'.cell? p1 = some v :=
  ⟨(b.cell (World.block_lt_of_cell? w _ k.1)).trans k.1, (b.cell (World.block_lt_of_cell? w _ k.2)).trans k.2⟩
set_option maxHeartbeats 800000 in
theorem implQuotaOf (A : Option Addr) (n c : Nat) (xs : List Int) (k i : Int) (w : World) (h : IntsAt w A n xs) (hn : n ≤ 1048576) :
    Calls Try.prog 23 #[.slice A n c, .int .i64 k, .int .i64 i] w fun e w' =>
      e = .returned (.tuple #[.agg #[.int .i64 (quotaTop xs k i : Int), .int .i64 (quotaBot xs k i : Int)], .bool (quotaGot xs k i)]) ∧ Below w.heap.size w w' := by
  obtain rfl := h.len
  have h0 := (h.below ((Below.refl _ _).alloc (Nat.le_refl _) (Obj.cells #[Value.int IntKind.i64 0, Value.int IntKind.i64 0] 30)))
  have hs0 : (w.alloc (Obj.cells #[Value.int IntKind.i64 0, Value.int IntKind.i64 0] 30)).heap.size = w.heap.size + 1 := World.size_alloc _ _
  have hall : Below w.heap.size w (w.alloc (Obj.cells #[Value.int IntKind.i64 0, Value.int IntKind.i64 0] 30)) := (Below.refl _ _).alloc (Nat.le_refl _) _
  cases hq : quotaOk xs k
  · have e1 : quotaTop xs k i = 0 := by unfold quotaTop quotaOn; rw [hq]; rfl
    have e2 : quotaBot xs k i = 0 := by unfold quotaBot quotaOn; rw [hq]; rfl
    have e3 : quotaGot xs k i = false := by unfold quotaGot quotaOn; rw [hq]; rfl
    rw [e1, e2, e3]
    clear e1 e2 e3
    go_enter Try.func23, Try.ntmps23
    go_wp2_with fail
    refine (quotaAsked_any _ _ _ _ _ _ h0 hn).mono ?_
    rintro e w1 ⟨rfl, hb⟩
    rw [hq]
    rw [hs0] at hb
    obtain ⟨c0, c1, f0, f1⟩ := pair_later hb
    have HB := Lib.hid (hall.trans (hb.mono (Nat.le_succ _)))
    clear hb hall
    go_wp2
    obtain ⟨e0, e1⟩ := pair_set c0 c1 (.int .i64 0) (.int .i64 0)
    exact bodyPost_ret (v := .tuple #[.agg #[.int .i64 0, .int .i64 0], .bool false]) (by simp [results, Try.results23, go_sem, e0, e1]) rfl ⟨rfl, (HB.out.setCell (Nat.le_refl _) _).setCell (Nat.le_refl _) _⟩
  cases hi : inB i 0 ((xs.length : Int) - 1)
  · have e1 : quotaTop xs k i = 0 := by unfold quotaTop quotaOn; rw [hq, hi]; rfl
    have e2 : quotaBot xs k i = 0 := by unfold quotaBot quotaOn; rw [hq, hi]; rfl
    have e3 : quotaGot xs k i = false := by unfold quotaGot quotaOn; rw [hq, hi]; rfl
    rw [e1, e2, e3]
    clear e1 e2 e3
    go_enter Try.func23, Try.ntmps23
    go_wp2_with fail
    refine (quotaAsked_any _ _ _ _ _ _ h0 hn).mono ?_
    rintro e w1 ⟨rfl, hb⟩
    rw [hq]
    rw [hs0] at hb
    obtain ⟨c0, c1, f0, f1⟩ := pair_later hb
    have HB := Lib.hid (hall.trans (hb.mono (Nat.le_succ _)))
    clear hb hall
    go_wp2_with (go_at_call 30; refine (within_any _ _ _ _).mono ?_; rintro e w' ⟨rfl, rfl⟩)
    obtain ⟨e0, e1⟩ := pair_set c0 c1 (.int .i64 0) (.int .i64 0)
    exact bodyPost_ret (v := .tuple #[.agg #[.int .i64 0, .int .i64 0], .bool false]) (by simp [results, Try.results23, go_sem, e0, e1]) rfl ⟨rfl, (HB.out.setCell (Nat.le_refl _) _).setCell (Nat.le_refl _) _⟩
  obtain ⟨j, t, b, rfl, hj, ht, hs, t1, b0, b1, e1, e2, e3⟩ := quota_facts hq hi
  rw [e1, e2, e3]
  clear e1 e2 e3
  obtain ⟨hc, k0, k1⟩ := quotaOk_facts hq
  have HB2 := Lib.hid (counts_bd hc)
  clear hc
  go_enter Try.func23, Try.ntmps23
  go_wp2_with fail
  refine (quotaAsked_any _ _ _ _ _ _ h0 hn).mono ?_
  rintro e w1 ⟨rfl, hb⟩
  rw [hq]
  have h1 := h0.below hb
  rw [hs0] at hb
  have s1 := hb.size
  rw [hs0] at s1
  obtain ⟨q, o, rfl, hbl, hcc⟩ := h1.at_ hj
  have hcj := hcc j hj
  clear hcc
  have HK := Lib.hid hb
  clear hb h0
  have hw : IntKind.i64.wrap (t : Int) = t := IntWalk.i64_in _ (by omega)
  have HW := Lib.hid hw
  clear hw
  go_wp2_with (go_at_call 30; refine (within_any _ _ _ _).mono ?_; rintro e w' ⟨rfl, rfl⟩)
  go_region_with (first
    | (go_at_call 42; refine (sumOf_any _ _ c xs _ (h1.drewN _) hn HB2.out).mono ?_; rintro e w' ⟨rfl, rfl⟩; rw [hs])
    | (go_at_call 41; rw [HW.out]; refine (reduced_any t b _ (by omega) (by omega) b0).mono ?_; rintro e w2 ⟨rfl, hb2⟩; have hb3 := hb2.mono (B' := w.heap.size + 1) s1; obtain ⟨c0, c1, f0, f1⟩ := pair_later (HK.out.trans ((below_of_drewN rfl).trans hb3)); have HB := Lib.hid (hall.trans ((HK.out.trans ((below_of_drewN rfl).trans hb3)).mono (Nat.le_succ _))); clear hb2 hb3))
  all_goals
    go_wp2
    obtain ⟨e0, e1⟩ := pair_set c0 c1 (.int .i64 (redTop t b : Nat)) (.int .i64 (redBot t b : Nat))
    exact bodyPost_ret (v := .tuple #[.agg #[.int .i64 (redTop t b : Nat), .int .i64 (redBot t b : Nat)], .bool (redOk t b)]) (by simp [results, Try.results23, go_sem, e0, e1]) rfl ⟨rfl, (HB.out.setCell (Nat.le_refl _) _).setCell (Nat.le_refl _) _⟩
set_option maxHeartbeats 800000 in
theorem specQuotaOf (A : Option Addr) (n c : Nat) (xs : List Int) (k i : Int) (w : World) (h : IntsAt w A n xs) (hn : n ≤ 1048576) :
    Calls Try.prog 22 #[.slice A n c, .int .i64 k, .int .i64 i] w fun e w' =>
      e = .returned (.tuple #[.agg #[.int .i64 (quotaTop xs k i : Int), .int .i64 (quotaBot xs k i : Int)], .bool (quotaGot xs k i)]) ∧ Below w.heap.size w w' := by
  obtain rfl := h.len
  have h0 := (h.below ((Below.refl _ _).alloc (Nat.le_refl _) (Obj.cells #[Value.int IntKind.i64 0, Value.int IntKind.i64 0] 30)))
  have hs0 : (w.alloc (Obj.cells #[Value.int IntKind.i64 0, Value.int IntKind.i64 0] 30)).heap.size = w.heap.size + 1 := World.size_alloc _ _
  have hall : Below w.heap.size w (w.alloc (Obj.cells #[Value.int IntKind.i64 0, Value.int IntKind.i64 0] 30)) := (Below.refl _ _).alloc (Nat.le_refl _) _
  cases hq : quotaOk xs k
  · have e1 : quotaTop xs k i = 0 := by unfold quotaTop quotaOn; rw [hq]; rfl
    have e2 : quotaBot xs k i = 0 := by unfold quotaBot quotaOn; rw [hq]; rfl
    have e3 : quotaGot xs k i = false := by unfold quotaGot quotaOn; rw [hq]; rfl
    rw [e1, e2, e3]
    clear e1 e2 e3
    go_enter Try.func22, Try.ntmps22
    go_wp2_with fail
    refine (l13Ok_any _ _ _ _ _ _ h0 hn).mono ?_
    rintro e w1 ⟨rfl, hw1⟩
    have hb : Below (w.alloc (Obj.cells #[Value.int IntKind.i64 0, Value.int IntKind.i64 0] 30)).heap.size (w.alloc (Obj.cells #[Value.int IntKind.i64 0, Value.int IntKind.i64 0] 30)) w1 := hw1 ▸ Below.refl _ _
    clear hw1
    rw [hq]
    rw [hs0] at hb
    obtain ⟨c0, c1, f0, f1⟩ := pair_later hb
    have HB := Lib.hid (hall.trans (hb.mono (Nat.le_succ _)))
    clear hb hall
    go_wp2
    obtain ⟨e0, e1⟩ := pair_set c0 c1 (.int .i64 0) (.int .i64 0)
    exact bodyPost_ret (v := .tuple #[.agg #[.int .i64 0, .int .i64 0], .bool false]) (by simp [results, Try.results22, go_sem, e0, e1]) rfl ⟨rfl, (HB.out.setCell (Nat.le_refl _) _).setCell (Nat.le_refl _) _⟩
  cases hi : inB i 0 ((xs.length : Int) - 1)
  · have e1 : quotaTop xs k i = 0 := by unfold quotaTop quotaOn; rw [hq, hi]; rfl
    have e2 : quotaBot xs k i = 0 := by unfold quotaBot quotaOn; rw [hq, hi]; rfl
    have e3 : quotaGot xs k i = false := by unfold quotaGot quotaOn; rw [hq, hi]; rfl
    rw [e1, e2, e3]
    clear e1 e2 e3
    go_enter Try.func22, Try.ntmps22
    go_wp2_with fail
    refine (l13Ok_any _ _ _ _ _ _ h0 hn).mono ?_
    rintro e w1 ⟨rfl, hw1⟩
    have hb : Below (w.alloc (Obj.cells #[Value.int IntKind.i64 0, Value.int IntKind.i64 0] 30)).heap.size (w.alloc (Obj.cells #[Value.int IntKind.i64 0, Value.int IntKind.i64 0] 30)) w1 := hw1 ▸ Below.refl _ _
    clear hw1
    rw [hq]
    rw [hs0] at hb
    obtain ⟨c0, c1, f0, f1⟩ := pair_later hb
    have HB := Lib.hid (hall.trans (hb.mono (Nat.le_succ _)))
    clear hb hall
    go_wp2_with (go_at_call 29; refine (l01In_any _ _ _ _).mono ?_; rintro e w' ⟨rfl, rfl⟩)
    obtain ⟨e0, e1⟩ := pair_set c0 c1 (.int .i64 0) (.int .i64 0)
    exact bodyPost_ret (v := .tuple #[.agg #[.int .i64 0, .int .i64 0], .bool false]) (by simp [results, Try.results22, go_sem, e0, e1]) rfl ⟨rfl, (HB.out.setCell (Nat.le_refl _) _).setCell (Nat.le_refl _) _⟩
  obtain ⟨j, t, b, rfl, hj, ht, hs, t1, b0, b1, e1, e2, e3⟩ := quota_facts hq hi
  rw [e1, e2, e3]
  clear e1 e2 e3
  obtain ⟨hc, k0, k1⟩ := quotaOk_facts hq
  have HB2 := Lib.hid (counts_bd hc)
  clear hc
  go_enter Try.func22, Try.ntmps22
  go_wp2_with fail
  refine (l13Ok_any _ _ _ _ _ _ h0 hn).mono ?_
  rintro e w1 ⟨rfl, hw1⟩
  have hb : Below (w.alloc (Obj.cells #[Value.int IntKind.i64 0, Value.int IntKind.i64 0] 30)).heap.size (w.alloc (Obj.cells #[Value.int IntKind.i64 0, Value.int IntKind.i64 0] 30)) w1 := hw1 ▸ Below.refl _ _
  clear hw1
  rw [hq]
  have h1 := h0.below hb
  rw [hs0] at hb
  have s1 := hb.size
  rw [hs0] at s1
  obtain ⟨q, o, rfl, hbl, hcc⟩ := h1.at_ hj
  have hcj := hcc j hj
  clear hcc
  have HK := Lib.hid hb
  clear hb h0
  have hw : IntKind.i64.wrap (t : Int) = t := IntWalk.i64_in _ (by omega)
  have HW := Lib.hid hw
  clear hw
  go_wp2_with (go_at_call 29; refine (l01In_any _ _ _ _).mono ?_; rintro e w' ⟨rfl, rfl⟩)
  go_region_with (first
    | (go_at_call 34; refine (l13Sum_any _ _ c xs _ (h1.drewN _) hn HB2.out).mono ?_; rintro e w' ⟨rfl, rfl⟩; rw [hs])
    | (go_at_call 39; rw [HW.out]; refine (l02Make_any t b _ (by omega) (by omega) b0).mono ?_; rintro e w2 ⟨rfl, hb2⟩; have hb3 := hb2.mono (B' := w.heap.size + 1) s1; obtain ⟨c0, c1, f0, f1⟩ := pair_later (HK.out.trans ((below_of_drewN rfl).trans hb3)); have HB := Lib.hid (hall.trans ((HK.out.trans ((below_of_drewN rfl).trans hb3)).mono (Nat.le_succ _))); clear hb2 hb3))
  all_goals
    go_wp2
    obtain ⟨e0, e1⟩ := pair_set c0 c1 (.int .i64 (redTop t b : Nat)) (.int .i64 (redBot t b : Nat))
    exact bodyPost_ret (v := .tuple #[.agg #[.int .i64 (redTop t b : Nat), .int .i64 (redBot t b : Nat)], .bool (redOk t b)]) (by simp [results, Try.results22, go_sem, e0, e1]) rfl ⟨rfl, (HB.out.setCell (Nat.le_refl _) _).setCell (Nat.le_refl _) _⟩
end Go.Proofs.Ytkjgngkiiecckaa
