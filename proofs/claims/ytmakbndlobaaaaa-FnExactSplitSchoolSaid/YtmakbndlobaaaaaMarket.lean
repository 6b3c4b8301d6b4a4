/- Markets: the check of a market, matchings, a matching turned round. -/
import Derived.Test.YtmakbndlobaaaaaRankOk
import Derived.Test.YtmakbndlobaaaaaPair
namespace Go.Proofs.Ytmakbndlobaaaaa
set_option linter.unusedVariables false
open Go.RowKit

theorem rankTo_iff {m : Int} {xs : List Int} {k : Nat} : rankTo m xs k = true ↔ ∀ i, i < k → (0 ≤ ix xs i ∧ ix xs i < m) ∧ ix xs i ∉ xs.take i := by
  unfold rankTo
  rw [allN_iff]
  constructor
  · intro h i hi
    have := h i hi
    rw [Bool.and_eq_true, inB_iff, Bool.not_eq_true', has_not] at this
    exact ⟨by omega, this.2⟩
  · intro h i hi
    rw [Bool.and_eq_true, inB_iff, Bool.not_eq_true', has_not]
    exact ⟨by have := h i hi; omega, (h i hi).2⟩
theorem rankOk_facts {m : Int} {xs : List Int} (h : rankOk m xs = true) : 1 ≤ m ∧ m ≤ 5 ∧ (xs.length : Int) = m ∧ ∀ i, i < xs.length → 0 ≤ ix xs i ∧ ix xs i < m := by
  unfold rankOk at h
  rw [Bool.and_eq_true, Bool.and_eq_true, inB_iff, decide_eq_true_eq, rankTo_iff] at h
  exact ⟨h.1.1.1, h.1.1.2, h.1.2, fun i hi => (h.2 i hi).1⟩

/-- all lists are rankings of m -/
def listsOk (m : Int) (xss : List (List Int)) : Bool := xss.all (rankOk m)
theorem any_not_lists (m : Int) (l : List (List Int)) : (!(l.any fun x => !rankOk m x)) = listsOk m l := by
  unfold listsOk
  rw [List.not_any_eq_all_not]
  congr 1
  funext x
  simp
theorem areRankings1 (A : Option Addr) (c : Nat) (xs : List Int) (m : Int) (B : Nat) (W : World) (h : IntsAt W A xs.length xs) (hn : xs.length ≤ 1048576) (hc : xs.length ≤ c) (h1 : W.cell? ⟨B, 0, none⟩ = some (.int .i64 m)) :
    Calls Try.prog 46 #[.slice A xs.length c, .pointer (some ⟨B, 0, none⟩)] W fun e W' => e = .returned (.bool (!rankOk m xs)) ∧ W = W' := by
  go_enter Try.func46, Try.ntmps46
  go_wp2_with (go_at_call 47; (with_reducible refine (implRankingOk _ _ _ _ _ _ h hn hc).mono ?_); rintro e w' ⟨rfl, rfl⟩)
  go_ret
  exact ⟨rfl, rfl⟩
set_option maxHeartbeats 400000 in
theorem areRankings_any (m : Int) (A : Option Addr) (n c : Nat) (xss : List (List Int)) (w : World) (h : RowsAt w A n xss) (hn : n ≤ 1048576) (hx : ∀ xs ∈ xss, xs.length ≤ 1048576) :
    Calls Try.prog 33 #[.int .i64 m, .slice A n c] w fun e w' => e = .returned (.bool (listsOk m xss)) ∧ Below w.heap.size w w' := by
  have hb2 : Below w.heap.size w (w.alloc (.cells #[.int .i64 m] 3)) := (Below.refl _ _).alloc (Nat.le_refl _) _
  have c1 := new_cell w (.int .i64 m) 3 rfl
  have hcf := containsFuncR_any 46 #[.pointer (some ⟨w.heap.size, 0, none⟩)] (fun r => !rankOk m r) A n c xss _ (h.below hb2) (by omega)
    (enters Try.func46 (by kernel_rfl) rfl)
    (fun A' c' xs W hxs hin hcc hbb => (areRankings1 A' c' xs m w.heap.size W hin (hx xs hxs) hcc ((hbb.cell (p := ⟨w.heap.size, 0, none⟩) (by simp)).trans c1)).mono fun e w' ⟨h1, h2⟩ => ⟨h1, h2 ▸ Below.refl _ _⟩)
  have hz : (w.alloc (.cells #[.int .i64 m] 3)).heap.size = w.heap.size + 1 := by simp
  rw [← any_not_lists]
  have HC := Lib.hid hcf
  clear hcf hx c1
  go_enter Try.func33, Try.ntmps33
  go_wp2_with fail
  refine HC.out.mono ?_
  rintro e w' ⟨rfl, hbw⟩
  have hfin := hb2.trans (hbw.mono (by omega))
  clear hbw hb2 hz
  go_wp2
  go_ret
  exact ⟨rfl, hfin⟩
/-- as many men as women, from 1 to 5, and each list a ranking -/
def marketOk (xss yss : List (List Int)) : Bool := inB xss.length 1 5 && decide ((yss.length : Int) = xss.length) && listsOk xss.length xss && listsOk xss.length yss
def matchOk (xss yss : List (List Int)) (zs : List Int) : Bool := marketOk xss yss && rankOk xss.length zs
end Go.Proofs.Ytmakbndlobaaaaa
