/- A market in a block of the call's own; what a market and a matching that pass the check are. -/
import Derived.Test.YtnoanomihifobaaDoorMatch
import Derived.Test.YtnoanomihifobaaDoorPerms
namespace Go.Proofs.YtnoanomihifobaaDoor
set_option linter.unusedVariables false
open Go.RowKit

/-- the struct of two lists of rankings lies in block g, and its rows lie in memory -/
structure MktAt (w : World) (g : Nat) (A : Option Addr) (n c : Nat) (xss : List (List Int)) (B : Option Addr) (m d : Nat) (yss : List (List Int)) : Prop where
  c0 : w.cell? ⟨g, 0, none⟩ = some (.slice A n c)
  c1 : w.cell? ⟨g, 1, none⟩ = some (.slice B m d)
  men : RowsAt w A n xss
  women : RowsAt w B m yss
theorem MktAt.below {w w' : World} {g : Nat} {A : Option Addr} {n c : Nat} {xss : List (List Int)} {B : Option Addr} {m d : Nat} {yss : List (List Int)} (h : MktAt w g A n c xss B m d yss) (hb : Below w.heap.size w w') : MktAt w' g A n c xss B m d yss :=
  ⟨cell_carry hb h.c0, cell_carry hb h.c1, h.men.below hb, h.women.below hb⟩
theorem MktAt.new {w : World} {A : Option Addr} {n c : Nat} {xss : List (List Int)} {B : Option Addr} {m d : Nat} {yss : List (List Int)} (h : RowsAt w A n xss) (g : RowsAt w B m yss) (T : TypeId) :
    MktAt (w.alloc (.cells #[.slice A n c, .slice B m d] T)) w.heap.size A n c xss B m d yss :=
  ⟨(new_pair w _ _ T rfl).1, (new_pair w _ _ T rfl).2, h.below (pair_below _ _ _ _), g.below (pair_below _ _ _ _)⟩

theorem rank_nodup {m : Int} {xs : List Int} (h : rankOk m xs = true) : xs.Nodup := by
  unfold rankOk at h
  rw [Bool.and_eq_true, rankTo_iff] at h
  rw [← nodup_iff, allN_iff]
  intro k hk
  rw [Bool.not_eq_true', has_not]
  exact (h.2 k hk).2
/-- a ranking holds each of the first numbers -/
theorem rank_perm {n : Nat} {xs : List Int} (h : rankOk n xs = true) : ((List.range n).map fun (j : Nat) => (j : Int)).Perm xs := by
  obtain ⟨_, _, h3, h4⟩ := rankOk_facts h
  have hl : xs.length = n := by omega
  refine perm_of xs _ (rank_nodup h) ?_ (by simp [hl])
  intro x hx
  obtain ⟨i, hi, rfl⟩ := List.getElem_of_mem hx
  have := h4 i hi
  rw [ix_lt hi] at this
  exact List.mem_map.2 ⟨xs[i].toNat, by rw [List.mem_range]; omega, by omega⟩
theorem rank_has {n : Nat} {xs : List Int} (h : rankOk n xs = true) {x : Int} (h0 : 0 ≤ x) (h1 : x < n) : x ∈ xs :=
  (rank_perm h).mem_iff.1 (List.mem_map.2 ⟨x.toNat, by rw [List.mem_range]; omega, by omega⟩)
theorem rank_place {n : Nat} {xs : List Int} (h : rankOk n xs = true) {x : Int} (h0 : 0 ≤ x) (h1 : x < n) : 0 ≤ place xs x ∧ place xs x < n := by
  have := place_mem.2 (rank_has h h0 h1)
  have := place_bd xs x
  have := (rankOk_facts h).2.2.1
  omega

structure MatchF (xss yss : List (List Int)) (zs : List Int) : Prop where
  lo : 1 ≤ xss.length
  hi : xss.length ≤ 5
  wl : yss.length = xss.length
  zl : zs.length = xss.length
  rank : rankOk xss.length zs = true
  mr : ∀ i, i < xss.length → rankOk xss.length (rx xss i) = true
  wr : ∀ i, i < xss.length → rankOk xss.length (rx yss i) = true
  z : ∀ i, i < xss.length → 0 ≤ ix zs i ∧ ix zs i < xss.length
structure MarketF (xss yss : List (List Int)) : Prop where
  lo : 1 ≤ xss.length
  hi : xss.length ≤ 5
  wl : yss.length = xss.length
  mr : ∀ i, i < xss.length → rankOk xss.length (rx xss i) = true
  wr : ∀ i, i < xss.length → rankOk xss.length (rx yss i) = true
theorem market_facts {xss yss : List (List Int)} (h : marketOk xss yss = true) : MarketF xss yss := by
  unfold marketOk listsOk at h
  simp only [Bool.and_eq_true, inB_iff, decide_eq_true_eq, List.all_eq_true] at h
  obtain ⟨⟨⟨h1, h2⟩, h3⟩, h4⟩ := h
  exact ⟨by omega, by omega, by omega, fun i hi => h3 _ (rx_mem hi), fun i hi => h4 _ (rx_mem (by omega))⟩
theorem match_facts {xss yss : List (List Int)} {zs : List Int} (h : matchOk xss yss zs = true) : MatchF xss yss zs := by
  unfold matchOk at h
  rw [Bool.and_eq_true] at h
  obtain ⟨f1, f2, f3, f4, f5⟩ := market_facts h.1
  have r := rankOk_facts h.2
  exact ⟨f1, f2, f3, by omega, h.2, f4, f5, fun i hi => r.2.2.2 i (by omega)⟩
theorem rank_len {n : Nat} {xs : List Int} (h : rankOk n xs = true) : xs.length = n := by have := (rankOk_facts h).2.2.1; omega

/-- in no place does the second matching give a man one whom he prefers -/
def atLeast (xss yss : List (List Int)) (us vs : List Int) : Bool := matchOk xss yss us && matchOk xss yss vs && allN (fun i => !pref (rx xss i) (ix vs i) (ix us i)) xss.length
end Go.Proofs.YtnoanomihifobaaDoor
