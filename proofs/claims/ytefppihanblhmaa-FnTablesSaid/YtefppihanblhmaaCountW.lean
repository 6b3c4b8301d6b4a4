/- The program's CountRoundings: a range over the iterator of Round1. -/
import Derived.Test.YtefppihanblhmaaRound1
import Derived.Shelf.Abstract
import Derived.LoopNIn
import Derived.LoopIn
namespace Go.Proofs.Ytefppihanblhmaa
set_option linter.unusedVariables false
open Go.RowKit Go.Shelf
attribute [local go_sem] Oper.semAt_some

def cntR (t : List (List Int)) : Int := if tableOk t then ((allR t).length : Int) else -1
theorem cntR_no {t : List (List Int)} (h : tableOk t = false) : cntR t = -1 := by unfold cntR; rw [h]; rfl
theorem cntR_yes {t : List (List Int)} (h : tableOk t = true) : cntR t = ((allR t).length : Int) := by unfold cntR; rw [h]; rfl
theorem RowsAt.carry {w w' : World} {A : Option Addr} {n : Nat} {t : List (List Int)} (h : RowsAt w A n t) (hc : ∀ p v, w.cell? p = some v → w'.cell? p = some v) : RowsAt w' A n t := by
  refine ⟨h.1, fun hn => ?_⟩
  obtain ⟨b, o, e, hcs⟩ := h.2 hn
  refine ⟨b, o, e, fun j hj => ?_⟩
  obtain ⟨A', n', c', h1, h2, h3⟩ := hcs j hj
  refine ⟨A', n', c', hc _ _ h1, h2, h3.1, fun hn' => ?_⟩
  obtain ⟨b', o', e', hc'⟩ := h3.2 hn'
  exact ⟨b', o', e', fun j hj => hc _ _ (hc' j hj)⟩
theorem told_put (t : List (List Int)) (x : Value × List Int) (W : World) (l : Nat) (o : Obj) (hl : ∃ r, W.heap[l]? = some (.loop r)) (h : toldT t x W) : toldT t x (W.putObj l o) := by
  obtain ⟨A, d, e, h⟩ := h
  obtain ⟨r, hl⟩ := hl
  exact ⟨A, d, e, h.carry fun p v hc => cell_kept hc (grownBy_putObj' W l o) (fun r e => by cases e; exact ⟨_, hl, rfl⟩)⟩
theorem roundings_any (A : Option Addr) (n c : Nat) (w : World) : Calls Try.prog 20 #[.slice A n c] w fun e w' => e = .returned (.func (.func 30) #[] #[.pointer (some ⟨w.heap.size, 0, none⟩)]) ∧ w' = w.alloc (.cells #[.slice A n c] 23) := by
  go_enter Try.func20, Try.ntmps20
  go_wp2
  go_ret
  exact ⟨rfl, rfl⟩
set_option maxRecDepth 100000 in
set_option maxHeartbeats 4000000 in
theorem implCountRoundings (A : Option Addr) (n cA : Nat) (t : List (List Int)) (w : World) (h : RowsAt w A n t) (hn : n ≤ 1048576) (hx : ∀ xs ∈ t, xs.length ≤ 1048576) :
    Calls Try.prog 6 #[.slice A n cA] w fun e w' => e = .returned (.int .i64 (cntR t)) ∧ Below w.heap.size w w' := by
  obtain rfl := h.len
  have HX := Lib.hid hx; clear hx
  refine (callsIn_wide (n := 6)).1 (callsIn_of_wp_marks Try.func6 rfl trivial ?_ rfl)
  simp only [Try.ntmps6, List.size_toArray, List.length_cons, List.length_nil, Nat.reduceAdd, Nat.reduceSub, Array.replicate_succ, Array.replicate_zero, List.push_toArray, List.append_toArray, List.nil_append, List.cons_append]
  refine (wpIn_wide (n := 6)).2 ?_
  go_wp2_with fail
  (with_reducible refine (implTableOk A _ cA t w h hn HX.out).mono ?_)
  rintro e W2 ⟨rfl, hb2⟩
  have h2 := h.below hb2
  have hz2 := hb2.size
  cases htk : tableOk t
  · have HR := Lib.hid (cntR_no htk)
    clear htk
    go_wp2
    exact ⟨_, results_tmp rfl _ _ _, by rw [HR.out]; rfl, hb2⟩
  · have HR := Lib.hid (cntR_yes htk)
    have HL := Lib.hid (allR_len t)
    clear htk
    have ha3 := (Below.refl W2.heap.size W2).alloc (Nat.le_refl _) (.cells #[.int .i64 0] 3)
    have cc3 := new_cell W2 (.int .i64 0) 3 rfl
    have fc3 := new_free W2 #[.int .i64 0] 3 rfl 0
    have hz3 : (W2.alloc (.cells #[.int .i64 0] 3)).heap.size = W2.heap.size + 1 := by simp
    have h3 := h2.below ha3
    have hb3 := hb2.trans (ha3.mono hz2)
    clear h2 hb2
    go_wp2_with fail
    generalize W2.alloc (.cells #[.int .i64 0] 3) = W3 at *
    (with_reducible refine (roundings_any A _ cA W3).mono ?_)
    rintro e W4 ⟨rfl, hW4⟩
    obtain ⟨k0, hk0⟩ : ∃ k0, W2.heap.size = k0 := ⟨_, rfl⟩
    rw [hk0] at cc3 fc3 hz3 ha3 ⊢
    have hwk : w.heap.size ≤ k0 := by omega
    have ha4 := (Below.refl W3.heap.size W3).alloc (Nat.le_refl _) (.cells #[.slice A t.length cA] 23)
    have ct4 := new_cell W3 (.slice A t.length cA) 23 rfl
    have cc4 := cell_carry ha4 cc3
    have fc4 : W4.frozen? ⟨k0, 0, none⟩ = false := by rw [hW4, ha4.frozen (p := ⟨k0, 0, none⟩) (by show k0 < _; omega)]; exact fc3
    have hb4 := hb3.trans (ha4.mono (by omega))
    rw [← hW4] at ha4 ct4 cc4 hb4
    have hz4 : W4.heap.size = k0 + 2 := by rw [hW4]; simp [hz3]
    rw [hz3] at ct4
    have hseq := roundings_seq t w W4 (k0 + 1) k0 A t.length cA hn HX.out hb4 h ct4 hwk (by omega) (by omega)
    clear hW4 ha4 cc3 fc3 hk0 ha3 h3 hb3
    go_wp2_with fail
    refine (wpIn_wide (n := 6)).1 ?_
    refine wp_rangeC (n := 5) (gf := 30) (lb := #[.pointer (some ⟨k0 + 1, 0, none⟩)]) rfl (enters_of Try.func30 (by kernel_rfl) rfl) k0 (by omega) hseq
      (fun x W l o _ hl hg => told_put t x W l o hl hg) (Below.refl _ _) (fun _ => rfl)
      (fun pre W => (W.cell? ⟨k0, 0, none⟩ = some (.int .i64 (pre.length : Int)) ∧ W.frozen? ⟨k0, 0, none⟩ = false) ∧ Below w.heap.size w W)
      (fun _ _ _ => False)
      (fun pre A B hi hb => ⟨⟨(hb.cell (p := ⟨k0, 0, none⟩) (by show k0 < _; omega)).trans hi.1.1, (hb.frozen (p := ⟨k0, 0, none⟩) (by show k0 < _; omega)).trans hi.1.2⟩, hi.2.trans (hb.mono (by omega))⟩)
      (fun _ _ _ _ _ hs _ _ => hs)
      ⟨⟨cc4, fc4⟩, hb4⟩ (fun x => { tmps := #[.slice A t.length cA, undef, .int .i64 0, .pointer (some ⟨k0, 0, none⟩), .slice A t.length cA, .bool true, .bool false, .slice A t.length cA, .func (.func 30) #[] #[.pointer (some ⟨k0 + 1, 0, none⟩)], x.1, undef, undef, undef], defers := [] }) ?assign ?body ?done ?stop
    case assign =>
      intro l x W K hK
      gi_wp2
      simpa using hK
    case body =>
      rintro l pre x W hs _ ⟨⟨hc, hf⟩, hB⟩ _ hlen
      gi_wp2
      refine ⟨grownBy_setCell' _ _ _, ⟨?_, by rw [World.frozen?_setCell]; exact hf⟩, hB.setCell (p := ⟨k0, 0, none⟩) hwk _⟩
      rw [World.cell?_setCell_same' _ _ _ (by rw [hc]; rfl), List.length_append, List.length_singleton]
      rfl
    case done =>
      rintro D xs W hD ⟨v, rfl⟩ ⟨⟨hc, _⟩, hB⟩ hK
      rw [List.length_map] at hc
      go_wp2
      refine ⟨by simp, .inl ⟨_, _, rfl, run_takeDeferred hK, ?_⟩⟩
      exact ⟨_, results_tmp rfl _ _ _, by rw [HR.out]; rfl, hB.trans (below_putObj W D _ (by omega) hB.size)⟩
    case stop =>
      rintro D c pre W _ _ h _
      exact h.elim
end Go.Proofs.Ytefppihanblhmaa
