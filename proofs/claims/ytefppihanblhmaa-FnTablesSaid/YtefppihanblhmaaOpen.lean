/- An argument's reading opened: what the walks are told of it. -/
import Derived.Test.YtefppihanblhmaaBase
import Derived.ProofKit
import Derived.OpenShut
import Derived.ShutString
import Derived.ChangeOld
import Derived.Below
import Derived.Deep.Matrix
namespace Go.Proofs.Ytefppihanblhmaa
set_option linter.unusedVariables false
open Go.ChangeShapes Go.WideShapes Go.ChangeAt Go.RowKit Go.Deep

theorem own : ownKnob Try.prog.godebug = none := by kernel_rfl
theorem laidOut : laidOutB Try.prog = true := by kernel_rfl
theorem cellsInt : Try.prog.cellsOf 3 = 1 := by kernel_rfl
theorem cellsInts : Try.prog.cellsOf 32 = 1 := by kernel_rfl

theorem ints_open {H : Type} {enc : TypeId × Value → H} {W : World} {a : Option Addr} {len cap : Nat} {d : DataW H} {p : List MemPlace}
    (h : DataW.Trod enc Try.prog W 0 (fun _ => true) true 32 (.slice a len cap) d p) : ∃ xs, IntsAt W a len xs ∧ (∀ x ∈ xs, (Lit.int .i64 x).wf = true) ∧ len ≤ cap ∧ cap ≤ maxLen := by
  obtain ⟨fuel, hf⟩ := h
  rcases open_ints Try.underlying32 Try.underlying3 cellsInt hf with ⟨hcs, _⟩ | ⟨x, l, c, zs, hcs, _, hl, hm, hz, _, hcell, hwz⟩
  · simp [Value.cells] at hcs
    obtain ⟨rfl, rfl, rfl⟩ := hcs
    exact ⟨[], IntsAt.nil _ _, by simp, Nat.le_refl _, by unfold maxLen; omega⟩
  · simp [Value.cells] at hcs
    obtain ⟨rfl, rfl, rfl⟩ := hcs
    simp only [if_true] at hz
    refine ⟨zs.take len, ⟨by simp; omega, fun hn => ?_⟩, fun x hx => hwz x (List.mem_of_mem_take hx), hl, hm⟩
    obtain ⟨b, off, rfl, hc⟩ := ints_at hcell (by omega)
    refine ⟨b, off, rfl, fun j hj => ?_⟩
    rw [hc j (by omega)]
    simp [ix, List.getD, hj]
theorem rows_open {H : Type} {enc : TypeId × Value → H} {W : World} {a : Option Addr} {len cap : Nat} {d : DataW H} {p : List MemPlace}
    (h : DataW.Trod enc Try.prog W 0 (fun _ => true) true 23 (.slice a len cap) d p) : ∃ xss, RowsAt W a len xss ∧ (∀ xs ∈ xss, xs.length ≤ 9223372036854775807 ∧ ∀ x ∈ xs, (Lit.int .i64 x).wf = true) ∧ len ≤ cap ∧ cap ≤ maxLen := by
  obtain ⟨fuel, hf⟩ := h
  rcases open_int_rows Try.underlying23 Try.underlying32 Try.underlying3 cellsInts cellsInt hf with ⟨hcs, _⟩ | ⟨x, l, c, A, L, C, Z, hcs, _, hl, hm, _, hcell⟩
  · simp [Value.cells] at hcs
    obtain ⟨rfl, rfl, rfl⟩ := hcs
    exact ⟨[], ⟨rfl, fun h => absurd h (by omega)⟩, by simp, Nat.le_refl _, by unfold maxLen; omega⟩
  · simp [Value.cells] at hcs
    obtain ⟨rfl, rfl, rfl⟩ := hcs
    refine ⟨(List.range len).map fun r => (Z r).take (L r), ⟨by simp, fun hn => ?_⟩, fun xs hxs => ?_, hl, hm⟩
    · obtain ⟨b, off, spot⟩ := x
      have hspot : spot = none := by
        have := (hcell 0 (by omega)).1
        simpa [Addr.add] using World.cell?_spot this
      subst hspot
      refine ⟨b, off, rfl, fun j hj => ⟨A j, L j, C j, ?_, (hcell j (by omega)).2.1, ?_⟩⟩
      · have := (hcell j (by omega)).1
        rwa [Go.WideShapes.add_plain] at this
      · obtain ⟨_, h1, h2, h3, h4, h5, h6⟩ := hcell j (by omega)
        have e : ((List.range len).map fun r => (Z r).take (L r)).getD j [] = (Z j).take (L j) := by simp [List.getD, hj]
        rw [e]
        refine ⟨by simp; omega, fun hn => ?_⟩
        obtain ⟨a', ha'⟩ : ∃ a', A j = some a' := by
          cases hA : A j with
          | none => have := h5 hA; omega
          | some a' => exact ⟨a', rfl⟩
        have hc := (h6 a' ha').2
        obtain ⟨b', off', rfl, hc'⟩ := ints_at (zs := Z j) (fun i hi => hc i (by omega)) (by omega)
        refine ⟨b', off', ha', fun i hi => ?_⟩
        rw [hc' i (by omega)]
        simp [ix, List.getD, hi]
    · obtain ⟨r, hr, rfl⟩ := List.mem_map.1 hxs
      have hr' : r < len := by simpa using hr
      have hr2 := hcell r (by omega)
      refine ⟨?_, fun x hx => hr2.2.2.2.2.1 x (List.mem_of_mem_take hx)⟩
      have h3 := hr2.2.2.1
      unfold maxLen at h3
      simp
      omega
theorem ints_open_one {H : Type} {enc : TypeId × Value → H} {W : World} {v : Value} {n : Nat} {y : DataW H × List MemPlace}
    (h : DataW.trod enc Try.prog W 0 (fun _ => true) true n 32 [v] = some y) : ∃ a len cap xs, v = .slice a len cap ∧ IntsAt W a len xs ∧ (∀ x ∈ xs, (Lit.int .i64 x).wf = true) ∧ len ≤ cap ∧ cap ≤ maxLen := by
  have hv : ∃ a l c, v = .slice a l c := by
    rcases open_ints Try.underlying32 Try.underlying3 cellsInt h with ⟨hcs, _⟩ | ⟨x, l, c, zs, hcs, _⟩
    · simp at hcs; exact ⟨_, _, _, hcs⟩
    · simp at hcs; exact ⟨_, _, _, hcs⟩
  obtain ⟨a, l, c, rfl⟩ := hv
  obtain ⟨xs, r⟩ := ints_open (d := y.1) (p := y.2) ⟨n, h⟩
  exact ⟨a, l, c, xs, rfl, r⟩
theorem rows_open_one {H : Type} {enc : TypeId × Value → H} {W : World} {v : Value} {n : Nat} {y : DataW H × List MemPlace}
    (h : DataW.trod enc Try.prog W 0 (fun _ => true) true n 23 [v] = some y) :
    ∃ a len cap xss, v = .slice a len cap ∧ RowsAt W a len xss ∧ (∀ xs ∈ xss, xs.length ≤ 9223372036854775807 ∧ ∀ x ∈ xs, (Lit.int .i64 x).wf = true) ∧ len ≤ cap ∧ cap ≤ maxLen := by
  have hv : ∃ a l c, v = .slice a l c := by
    rcases open_int_rows Try.underlying23 Try.underlying32 Try.underlying3 cellsInts cellsInt h with ⟨hcs, _⟩ | ⟨x, l, c, A, L, C, Z, hcs, _⟩
    · simp at hcs; exact ⟨_, _, _, hcs⟩
    · simp at hcs; exact ⟨_, _, _, hcs⟩
  obtain ⟨a, l, c, rfl⟩ := hv
  obtain ⟨xss, r⟩ := rows_open (d := y.1) (p := y.2) ⟨n, h⟩
  exact ⟨a, l, c, xss, rfl, r⟩
end Go.Proofs.Ytefppihanblhmaa
