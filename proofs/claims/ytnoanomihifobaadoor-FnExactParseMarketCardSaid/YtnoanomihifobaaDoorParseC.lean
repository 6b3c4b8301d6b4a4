/- A market that was read: bounds, marks. -/
import Derived.Test.YtnoanomihifobaaDoorParseI
import Derived.Test.YtnoanomihifobaaDoorParseS
import Derived.Test.YtnoanomihifobaaDoorLawMarket
import Derived.Test.YtnoanomihifobaaDoorMarkL
namespace Go.Proofs.YtnoanomihifobaaDoor
set_option linter.unusedVariables false
open Go.RowKit

theorem par_bd (a : ByteArray) : (parMen a).length ≤ 1048576 ∧ (∀ xs ∈ parMen a, xs.length ≤ 1048576) ∧ (parWom a).length ≤ 1048576 ∧ (∀ xs ∈ parWom a, xs.length ≤ 1048576) := by
  have hr := rdF_rows (wds a) false [] [] (by simp) (by simp)
  cases h : parOk a
  · obtain ⟨e1, e2⟩ := par_no h
    rw [e1, e2]
    simp
  · obtain ⟨e1, e2⟩ := par_yes h
    rw [e1, e2]
    have hm : marketOk (parF a).1 (parF a).2 = true := by
      unfold parOk at h
      rw [Bool.and_eq_true, Bool.and_eq_true] at h
      exact h.1.2
    have F := market_facts hm
    have h1 := F.hi
    have h2 := F.wl
    exact ⟨by omega, fun xs hx => by have := hr.1 xs hx; omega, by omega, fun xs hx => by have := hr.2 xs hx; omega⟩
theorem implParseMarketC (a : ByteArray) (m : Int) (w : World) (ha : a.size ≤ 1048576) (hm : w.cell? ⟨0, 0, none⟩ = some (.int .i64 m)) :
    Calls Tryd.prog 5 #[.string a] w fun e w' => ∃ A1 c1 B1 d1, e = .returned (.tuple #[.agg #[.slice A1 (parMen a).length c1, .slice B1 (parWom a).length d1], .bool (parOk a)]) ∧
      OwnMk w' w.heap.size w'.heap.size A1 (parMen a).length c1 (parMen a) B1 (parWom a).length d1 (parWom a) ∧
      (parMen a).length ≤ 1048576 ∧ (∀ xs ∈ parMen a, xs.length ≤ 1048576) ∧ (parWom a).length ≤ 1048576 ∧ (∀ xs ∈ parWom a, xs.length ≤ 1048576) ∧ Below w.heap.size w w' := by
  obtain ⟨b1, b2, b3, b4⟩ := par_bd a
  refine (implParseMarket a m w ha hm).mono ?_
  rintro e w' ⟨A1, c1, B1, d1, he, ho, hb⟩
  exact ⟨A1, c1, B1, d1, he, ho, b1, b2, b3, b4, hb⟩
theorem implParseMarketD (a : ByteArray) (w : World) (ha : a.size ≤ 1048576) (m : Int) (hm : w.cell? ⟨0, 0, none⟩ = some (.int .i64 m)) :
    Calls Tryd.prog 5 #[.string a] w fun e w' => ∃ A1 c1 B1 d1, e = .returned (.tuple #[.agg #[.slice A1 (parMen a).length c1, .slice B1 (parWom a).length d1], .bool (parOk a)]) ∧
      OwnMk w' w.heap.size w'.heap.size A1 (parMen a).length c1 (parMen a) B1 (parWom a).length d1 (parWom a) ∧
      (parMen a).length ≤ 1048576 ∧ (∀ xs ∈ parMen a, xs.length ≤ 1048576) ∧ (parWom a).length ≤ 1048576 ∧ (∀ xs ∈ parWom a, xs.length ≤ 1048576) ∧ Below w.heap.size w w' := implParseMarketC a m w ha hm
theorem specParseMarketC (a : ByteArray) (w : World) (ha : a.size ≤ 1048576) :
    Calls Tryd.prog 4 #[.string a] w fun e w' => ∃ A1 c1 B1 d1, e = .returned (.tuple #[.agg #[.slice A1 (parMen a).length c1, .slice B1 (parWom a).length d1], .bool (parOk a)]) ∧
      OwnMk w' w.heap.size w'.heap.size A1 (parMen a).length c1 (parMen a) B1 (parWom a).length d1 (parWom a) ∧
      (parMen a).length ≤ 1048576 ∧ (∀ xs ∈ parMen a, xs.length ≤ 1048576) ∧ (parWom a).length ≤ 1048576 ∧ (∀ xs ∈ parWom a, xs.length ≤ 1048576) ∧ Below w.heap.size w w' := by
  obtain ⟨b1, b2, b3, b4⟩ := par_bd a
  refine (specParseMarket a w ha).mono ?_
  rintro e w' ⟨A1, c1, B1, d1, he, ho, hb⟩
  exact ⟨A1, c1, B1, d1, he, ho, b1, b2, b3, b4, hb⟩
set_option maxHeartbeats 800000 in
theorem markMarketM_any (A : Option Addr) (n c lo hi : Nat) (xss : List (List Int)) (B : Option Addr) (m d : Nat) (yss : List (List Int)) (k0 : Int) (w : World) (h : OwnMk w lo hi A n c xss B m d yss) (hn : n ≤ 1048576) (hx : ∀ xs ∈ xss, xs.length ≤ 1048576)
    (hm : m ≤ 1048576) (hy : ∀ xs ∈ yss, xs.length ≤ 1048576) (hd3 : lo ≤ hi) (hd4 : hi ≤ w.heap.size) (h0 : 0 ≤ k0) (h1 : k0 ≤ 288230376151711744) :
    Calls Tryd.prog 7 #[.agg #[.slice A n c, .slice B m d], .int .i64 k0] w fun r w' => r = .returned (.int .i64 (endR (endR k0 xss) yss)) ∧
      OwnMk w' lo hi A n c (marksR k0 xss) B m d (marksR (endR k0 xss) yss) ∧ Only lo hi w w' ∧ 0 ≤ endR (endR k0 xss) yss ∧ endR (endR k0 xss) yss ≤ k0 + 2199023255552 := by
  obtain ⟨rfl, rfl, us, vs, hu, hv, hO⟩ := h
  have HX := Lib.hid hx
  have HY := Lib.hid hy
  have HU := Lib.hid hu
  have HV := Lib.hid hv
  clear hx hy hu hv
  have a1 := pair_below w (.slice A xss.length c) (.slice B yss.length d) 24
  have p1 := new_pair w (.slice A xss.length c) (.slice B yss.length d) 24 rfl
  have h2 := hO.belowW a1
  have n1 : Only lo hi w (w.alloc (.cells #[.slice A xss.length c, .slice B yss.length d] 24)) := Only.of_below a1 (Nat.le_refl _)
  have hz1 := World.size_alloc w (.cells #[.slice A xss.length c, .slice B yss.length d] 24)
  have HO2 := Lib.hid (show OwnL _ lo hi ([pR (.slice A xss.length c) us, pR (.slice B yss.length d) vs] ++ (rowsL us xss ++ rowsL vs yss)) from h2)
  clear hO h2
  go_enter Tryd.func7, Tryd.ntmps7
  go_wp2_with fail
  (with_reducible refine (markIntSSL_any A c lo hi us xss [pR (.slice A xss.length c) us, pR (.slice B yss.length d) vs] (rowsL vs yss) k0 _ (by simp) HU.out HO2.out (by omega) hn HX.out h0 (by omega)).mono ?_)
  rintro er w1 ⟨rfl, o1, ho, ge, le⟩
  have x1 := ho.cell p1.2 (by simp; omega)
  have n2 := n1.trans ho
  have hz2 := ho.size
  have HO3 := Lib.hid (show OwnL w1 lo hi (([pR (.slice A xss.length c) us, pR (.slice B yss.length d) vs] ++ rowsL us (marksR k0 xss)) ++ (rowsL vs yss ++ [])) from by simpa using o1)
  clear ho n1 p1 a1 HO2 o1
  go_wp2_with fail
  (with_reducible refine (markIntSSL_any B d lo hi vs yss ([pR (.slice A xss.length c) us, pR (.slice B yss.length d) vs] ++ rowsL us (marksR k0 xss)) [] _ _ (by simp) HV.out HO3.out (by omega) hm HY.out ge (by omega)).mono ?_)
  rintro er w2 ⟨rfl, o2, ho, ge2, le2⟩
  have n3 := n2.trans ho
  have HO4 : Hid (OwnL w2 lo hi (pR (.slice A xss.length c) us :: pR (.slice B yss.length d) vs :: (rowsL us (marksR k0 xss) ++ rowsL vs (marksR (endR k0 xss) yss)))) := by
    show OwnL _ _ _ _
    simpa using o2
  clear ho n2 o2 HO3
  go_wp2
  go_ret
  exact ⟨rfl, ⟨marksR_len _ _, marksR_len _ _, us, vs, by rw [marksR_len]; exact HU.out, by rw [marksR_len]; exact HV.out, HO4.out⟩, n3, ge2, by omega⟩
end Go.Proofs.YtnoanomihifobaaDoor
