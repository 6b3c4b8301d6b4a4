/- The program's RoundTable: the body of the range leaves at the first round. -/
import Derived.Test.YtefppihanblhmaaCountS
import Derived.Shelf.Abstract
import Derived.LoopNIn
import Derived.LoopIn
namespace Go.Proofs.Ytefppihanblhmaa
set_option linter.unusedVariables false
open Go.RowKit Go.Shelf
attribute [local go_sem] Oper.semAt_some

theorem ownR_grown {w w' : World} {lo hi : Nat} {v : Value} {xss : List (List Int)} {row : Option Nat} (h : OwnR w lo hi v xss) (hg : w.grownBy w' row) (hr : ∀ k, row = some k → k < lo) : OwnR w' lo hi v xss :=
  h.keep fun k h1 _ h3 => hg.block k h3 fun e => by have := hr k e.symm; omega
/-- the range's own facts -/
structure RtAt (w : World) (k0 B : Nat) (u : Value) (b : Bool) (W : World) : Prop where
  c0 : W.cell? ⟨k0, 0, none⟩ = some u
  f0 : W.frozen? ⟨k0, 0, none⟩ = false
  c1 : W.cell? ⟨k0 + 1, 0, none⟩ = some (.bool b)
  f1 : W.frozen? ⟨k0 + 1, 0, none⟩ = false
  below : Below w.heap.size w W
theorem RtAt.later {w W W' : World} {k0 B : Nat} {u : Value} {b : Bool} (h : RtAt w k0 B u b W) (hb : Below B W W') (h0 : k0 + 1 < B) (hw : w.heap.size ≤ B) : RtAt w k0 B u b W' :=
  ⟨(hb.cell (p := ⟨k0, 0, none⟩) (by show k0 < B; omega)).trans h.c0, (hb.frozen (p := ⟨k0, 0, none⟩) (by show k0 < B; omega)).trans h.f0, (hb.cell (p := ⟨k0 + 1, 0, none⟩) h0).trans h.c1, (hb.frozen (p := ⟨k0 + 1, 0, none⟩) h0).trans h.f1, h.below.trans (hb.mono hw)⟩
theorem RtAt.grown {w W W' : World} {k0 B : Nat} {u : Value} {b : Bool} {row : Option Nat} (h : RtAt w k0 B u b W) (hg : W.grownBy W' row) (hr : ∀ r, row = some r → B ≤ r) (h0 : k0 + 1 < B) (hw : w.heap.size ≤ B) (hB : B ≤ W.heap.size) : RtAt w k0 B u b W' :=
  h.later ((Below.refl B W).grown hg hB hr) h0 hw
set_option maxRecDepth 100000 in
set_option maxHeartbeats 4000000 in
theorem implRoundTable (A : Option Addr) (n cA : Nat) (t : List (List Int)) (w : World) (h : RowsAt w A n t) (hn : n ≤ 1048576) (hx : ∀ xs ∈ t, xs.length ≤ 1048576) :
    Calls Try.prog 5 #[.slice A n cA] w fun e w' => ∃ A' c', e = .returned (.tuple #[.slice A' (rndT t).length c', .bool (hasR t)]) ∧ OwnR w' w.heap.size w'.heap.size (.slice A' (rndT t).length c') (rndT t) ∧ (rndT t).length ≤ 1048576 ∧ (∀ xs ∈ rndT t, xs.length ≤ 1048576) ∧ Below w.heap.size w w' := by
  obtain rfl := h.len
  have HX := Lib.hid hx; clear hx
  obtain ⟨k0, hk0⟩ : ∃ k0, w.heap.size = k0 := ⟨_, rfl⟩
  refine (callsIn_wide (n := 6)).1 (callsIn_of_wp_marks Try.func5 rfl trivial ?_ rfl)
  simp only [Try.ntmps5, List.size_toArray, List.length_cons, List.length_nil, Nat.reduceAdd, Nat.reduceSub, Array.replicate_succ, Array.replicate_zero, List.push_toArray, List.append_toArray, List.nil_append, List.cons_append]
  refine (wpIn_wide (n := 6)).2 ?_
  have ha1 := (Below.refl w.heap.size w).alloc (Nat.le_refl _) (.cells #[.slice none 0 0] 23)
  have c1 := new_cell w (.slice none 0 0) 23 rfl
  have f1 := new_free w #[.slice none 0 0] 23 rfl 0
  have z1 : (w.alloc (.cells #[.slice none 0 0] 23)).heap.size = k0 + 1 := by simp [hk0]
  obtain ⟨w1, hw1⟩ : ∃ w1, w.alloc (.cells #[.slice none 0 0] 23) = w1 := ⟨_, rfl⟩
  rw [hw1] at ha1 c1 f1 z1
  have ha2 := (Below.refl w1.heap.size w1).alloc (Nat.le_refl _) (.cells #[.bool false] 4)
  have c2 := new_cell w1 (.bool false) 4 rfl
  have f2 := new_free w1 #[.bool false] 4 rfl 0
  have z2 : (w1.alloc (.cells #[.bool false] 4)).heap.size = k0 + 2 := by simp [z1]
  rw [z1] at c2 f2
  rw [hk0] at c1 f1
  have R2 : RtAt w k0 (k0 + 2) (.slice none 0 0) false (w1.alloc (.cells #[.bool false] 4)) :=
    ⟨cell_carry ha2 c1, by rw [ha2.frozen (p := ⟨k0, 0, none⟩) (by show k0 < _; omega)]; exact f1, c2, f2, ha1.trans (ha2.mono (by omega))⟩
  have ha3 := (Below.refl (w1.alloc (.cells #[.bool false] 4)).heap.size (w1.alloc (.cells #[.bool false] 4))).alloc (Nat.le_refl _) (.cells #[.slice A t.length cA] 23)
  have ct := new_cell (w1.alloc (.cells #[.bool false] 4)) (.slice A t.length cA) 23 rfl
  rw [z2] at ha3 ct
  have R3 := R2.later ha3 (by omega) (by omega)
  subst hw1
  clear ha1 c1 f1 ha2 c2 f2 R2 z1 ha3
  go_wp2_with fail
  (with_reducible refine (roundings_any A _ cA _).mono ?_)
  rintro e w3 ⟨rfl, hw3⟩
  simp only [World.size_alloc, hk0]
  rw [← hw3] at R3 ct
  have z3 : w3.heap.size = k0 + 3 := by rw [hw3]; simp [hk0]
  have hseq := roundings_seq t w w3 (k0 + 2) k0 A t.length cA hn HX.out R3.below h ct (by omega) (by omega) (by omega)
  clear hw3 z2 ct
  go_wp2_with fail
  refine (wpIn_wide (n := 6)).1 ?_
  refine wp_rangeC (n := 5) (gf := 30) (lb := #[.pointer (some ⟨k0 + 2, 0, none⟩)]) rfl (enters_of Try.func30 (by kernel_rfl) rfl) k0 (by omega) hseq
    (fun x W l o _ hl hg => told_put t x W l o hl hg) (Below.refl _ _) (fun _ => rfl)
    (fun pre W => pre = [] ∧ RtAt w k0 (k0 + 2) (.slice none 0 0) false W)
    (fun cd pre W => cd = .ret ∧ ∃ v m A' c' lo hi, pre = [(v, m)] ∧ k0 + 4 < lo ∧ RtAt w k0 (k0 + 2) (.slice A' t.length c') true W ∧ OwnR W lo hi (.slice A' t.length c') (rowsF (rx t 0).length m t.length) ∧ hi ≤ W.heap.size)
    (fun pre A B hi hb => ⟨hi.1, hi.2.later (hb.mono (by omega)) (by omega) (by omega)⟩)
    (fun cd pre A B row hi hg hr => by
      obtain ⟨h1, v, m, A', c', lo, hi', e, hlo, R, ho, hle⟩ := hi
      have hlt := cell_lt R.c1
      exact ⟨h1, v, m, A', c', lo, hi', e, hlo, R.grown hg (fun r e => by have := hr r e; omega) (by omega) (by omega) (by omega), ownR_grown ho hg (fun k e => by have := hr k e; omega), Nat.le_trans hle hg.size⟩)
    ⟨rfl, R3⟩ (fun x => { tmps := #[.slice A t.length cA, undef, .pointer (some ⟨k0, 0, none⟩), .pointer (some ⟨k0 + 1, 0, none⟩), x.1, .slice A t.length cA, .func (.func 30) #[] #[.pointer (some ⟨k0 + 2, 0, none⟩)], x.1, undef, undef], defers := [] }) ?assign ?body ?done ?stop
  case assign =>
    intro l x W K hK
    gi_wp2
    simpa using hK
  case body =>
    rintro l pre ⟨v, m⟩ W hs _ ⟨rfl, R⟩ ⟨Ax, dx, ev, hrx⟩ hlen
    simp only at ev
    subst ev
    have hc0 : (rx t 0).length ≤ 1048576 := by
      by_cases e : 0 < t.length
      · exact HX.out _ (rx_mem e)
      · have : t = [] := List.eq_nil_of_length_eq_zero (by omega)
        rw [this]; simp [rx]
    have hsm : ∀ xs ∈ rowsF (rx t 0).length m t.length, xs.length ≤ 1048576 := fun xs hxs => by
      simp only [rowsF, List.mem_map] at hxs
      obtain ⟨q, _, rfl⟩ := hxs
      unfold rowF
      rw [List.length_take]; omega
    have K := Lib.hid (copyRows_any Ax t.length dx (rowsF (rx t 0).length m t.length) W hrx hn hsm)
    clear hsm hc0 hrx
    gi_wp2_with fail
    refine ⟨trivial, (CallsIn.inRound l (callsIn_wide.2 K.out)).mono ?_⟩
    rintro e W5 ⟨A', c', rfl, o5, hb5⟩
    have R5 := R.later (hb5.mono (by omega)) (by omega) (by omega)
    have c0 := R5.c0
    have f0 := R5.f0
    have e6 : (W5.setCell ⟨k0, 0, none⟩ (.slice A' t.length c')).cell? ⟨k0 + 1, 0, none⟩ = some (.bool false) :=
      (World.cell?_of_block (Below.heap_setCell W5 ⟨k0, 0, none⟩ _ (k0 + 1) (by show k0 + 1 ≠ k0; omega))).trans R5.c1
    have e7 : (W5.setCell ⟨k0, 0, none⟩ (.slice A' t.length c')).frozen? ⟨k0 + 1, 0, none⟩ = false := by rw [World.frozen?_setCell]; exact R5.f1
    clear K R
    gi_wp2
    have hsz5 := hb5.size
    refine ⟨⟨Nat.le_trans hb5.size (Nat.le_trans (grownBy_setCell' W5 k0 _).size (grownBy_setCell' _ (k0 + 1) _).size), fun k h1 h2 => ?_⟩, rfl, _, m, A', c', W.heap.size, W5.heap.size, rfl, by omega, ⟨?_, ?_, ?_, ?_, ?_⟩, ?_, ?_⟩
    · rw [Below.heap_setCell _ _ _ _ (by show k ≠ k0 + 1; omega), Below.heap_setCell _ _ _ _ (by show k ≠ k0; omega), hb5.block k h2]
    · refine (World.cell?_of_block (Below.heap_setCell _ ⟨k0 + 1, 0, none⟩ _ k0 (by show k0 ≠ k0 + 1; omega))).trans ?_
      exact World.cell?_setCell_same' _ _ _ (by rw [R5.c0]; rfl)
    · rw [World.frozen?_setCell, World.frozen?_setCell]; exact R5.f0
    · exact World.cell?_setCell_same' _ _ _ (by rw [e6]; rfl)
    · rw [World.frozen?_setCell, World.frozen?_setCell]; exact R5.f1
    · exact (R5.below.setCell (p := ⟨k0, 0, none⟩) (by show w.heap.size ≤ k0; omega) _).setCell (p := ⟨k0 + 1, 0, none⟩) (by show w.heap.size ≤ k0 + 1; omega) _
    · exact o5.keep fun k h1 h2 h3 => by rw [Below.heap_setCell _ _ _ _ (by show k ≠ k0 + 1; omega), Below.heap_setCell _ _ _ _ (by show k ≠ k0; omega)]
    · exact Nat.le_trans (grownBy_setCell' W5 k0 _).size (grownBy_setCell' _ (k0 + 1) _).size
  case done =>
    rintro D xs W hD ⟨v, rfl⟩ ⟨he, R⟩ hK
    have HR := Lib.hid (rndT_no (List.map_eq_nil_iff.1 he))
    have c0 := R.c0
    have f0 := R.f0
    have hlt := cell_lt R.c1
    have e6 : (W.setCell ⟨k0, 0, none⟩ (.slice none 0 0)).cell? ⟨k0 + 1, 0, none⟩ = some (.bool false) :=
      (World.cell?_of_block (Below.heap_setCell W ⟨k0, 0, none⟩ _ (k0 + 1) (by show k0 + 1 ≠ k0; omega))).trans R.c1
    have e7 : (W.setCell ⟨k0, 0, none⟩ (.slice none 0 0)).frozen? ⟨k0 + 1, 0, none⟩ = false := by rw [World.frozen?_setCell]; exact R.f1
    have hK2 : ((W.setCell ⟨k0, 0, none⟩ (.slice none 0 0)).setCell ⟨k0 + 1, 0, none⟩ (.bool false)).heap[D]? = some (.deferred (some [])) := by
      rw [Below.heap_setCell _ _ _ _ (by show D ≠ k0 + 1; omega), Below.heap_setCell _ _ _ _ (by show D ≠ k0; omega)]; exact hK
    have g0 : (((W.setCell ⟨k0, 0, none⟩ (.slice none 0 0)).setCell ⟨k0 + 1, 0, none⟩ (.bool false)).putObj D (.deferred none)).cell? ⟨k0, 0, none⟩ = some (.slice none 0 0) :=
      (World.cell?_of_block (World.putObj_heap_other (k := k0) (by omega))).trans ((World.cell?_of_block (Below.heap_setCell _ ⟨k0 + 1, 0, none⟩ _ k0 (by show k0 ≠ k0 + 1; omega))).trans (World.cell?_setCell_same' _ _ _ (by rw [R.c0]; rfl)))
    have g1 : (((W.setCell ⟨k0, 0, none⟩ (.slice none 0 0)).setCell ⟨k0 + 1, 0, none⟩ (.bool false)).putObj D (.deferred none)).cell? ⟨k0 + 1, 0, none⟩ = some (.bool false) :=
      (World.cell?_of_block (World.putObj_heap_other (k := k0 + 1) (by omega))).trans (World.cell?_setCell_same' _ _ _ (by rw [e6]; rfl))
    have hbl : Below w.heap.size w (((W.setCell ⟨k0, 0, none⟩ (.slice none 0 0)).setCell ⟨k0 + 1, 0, none⟩ (.bool false)).putObj D (.deferred none)) := by
      have h1 := (R.below.setCell (p := ⟨k0, 0, none⟩) (by show w.heap.size ≤ k0; omega) (.slice none 0 0)).setCell (p := ⟨k0 + 1, 0, none⟩) (by show w.heap.size ≤ k0 + 1; omega) (.bool false)
      exact h1.trans (below_putObj _ D _ (by omega) h1.size)
    clear he
    go_wp2
    refine ⟨by simp, .inl ⟨_, _, rfl, run_takeDeferred hK2, ?_⟩⟩
    refine ⟨.tuple #[.slice none 0 0, .bool false], ?_, none, 0, ?_, ?_, ?_, ?_, hbl⟩
    · simp [results, Try.f5, go_sem, g0, g1]
    · rw [HR.out.1, HR.out.2]; rfl
    · rw [HR.out.1]; exact OwnR.nil _ _ _
    · rw [HR.out.1]; simp
    · rw [HR.out.1]; simp
  case stop =>
    rintro D cd pre W hD ⟨v', q, hq, hq0, hpre⟩ ⟨rfl, v, m, A', c', lo, hi, e, hlo, R, ho, hhi⟩ hK
    rw [e] at hpre
    obtain ⟨z, hz⟩ := hq
    have hall : ∃ z, allR t = m :: z := by
      match q, hpre, hz with
      | [m'], hpre, hz =>
        simp at hpre
        exact ⟨z, by rw [← hz, hpre.2]; rfl⟩
      | [], hpre, _ => simp at hpre
      | _ :: _ :: _, hpre, _ => simp at hpre
    obtain ⟨z, hall⟩ := hall
    have HR := Lib.hid (rndT_yes hall)
    have hl : Hid ((rndT t).length = t.length) := by show _ = _; rw [HR.out.1, rowsF_len]
    have hc0 : (rx t 0).length ≤ 1048576 := by
      by_cases e : 0 < t.length
      · exact HX.out _ (rx_mem e)
      · have : t = [] := List.eq_nil_of_length_eq_zero (by omega)
        rw [this]; simp [rx]
    have hlt := cell_lt R.c1
    have g0 : (W.putObj D (.deferred none)).cell? ⟨k0, 0, none⟩ = some (.slice A' t.length c') := (World.cell?_of_block (World.putObj_heap_other (k := k0) (by omega))).trans R.c0
    have g1 : (W.putObj D (.deferred none)).cell? ⟨k0 + 1, 0, none⟩ = some (.bool true) := (World.cell?_of_block (World.putObj_heap_other (k := k0 + 1) (by omega))).trans R.c1
    have ho2 : OwnR (W.putObj D (.deferred none)) lo hi (.slice A' t.length c') (rowsF (rx t 0).length m t.length) := ho.keep fun k h1 _ _ => World.putObj_heap_other (by omega)
    have hbl : Below w.heap.size w (W.putObj D (.deferred none)) := R.below.trans (below_putObj _ D _ (by omega) R.below.size)
    clear hall hz hpre e
    gi_wp2
    refine ⟨by simp, .inl ⟨_, _, rfl, run_takeDeferred hK, ?_⟩⟩
    refine ⟨.tuple #[.slice A' t.length c', .bool true], ?_, A', c', ?_, ?_, ?_, ?_, hbl⟩
    · simp [results, Try.f5, go_sem, g0, g1]
    · rw [hl.out, HR.out.2]
    · rw [hl.out, HR.out.1]; exact ho2.mono (by omega) (by simp; omega)
    · rw [hl.out]; exact hn
    · rw [HR.out.1]
      intro xs hxs
      simp only [rowsF, List.mem_map] at hxs
      obtain ⟨q, _, rfl⟩ := hxs
      unfold rowF
      rw [List.length_take]; omega
end Go.Proofs.Ytefppihanblhmaa
