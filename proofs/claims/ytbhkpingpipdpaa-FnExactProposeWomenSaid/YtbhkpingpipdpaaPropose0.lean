/- Rows of one's own that are made in any order: plain lemmas. -/
import Derived.Test.YtbhkpingpipdpaaRepeat
import Derived.Test.YtbhkpingpipdpaaBaseR
namespace Go.Proofs.Ytbhkpingpipdpaa
set_option linter.unusedVariables false
open Go.RowKit

/-- since w1 the rows L (block, numbers) were made, nothing else was changed -/
structure St (w1 W : World) (L : List (Nat × List Int)) : Prop where
  own : ∀ p ∈ L, OwnI W p.1 (p.1 + 1) (.slice (some ⟨p.1, 0, none⟩) p.2.length p.2.length) p.2 ∧ w1.heap.size ≤ p.1 ∧ p.1 < W.heap.size
  bel : Below w1.heap.size w1 W
theorem St.start (w1 : World) : St w1 w1 [] := ⟨fun p h => by simp at h, Below.refl _ _⟩
theorem St.drew {w1 W : World} {L : List (Nat × List Int)} (h : St w1 W L) : St w1 W.drew L := ⟨h.own, h.bel.drew⟩
theorem St.step {w1 W W' : World} {L : List (Nat × List Int)} {xs : List Int} {n : Nat} (h : St w1 W L) (hb : Below W.heap.size W W') (ho : OwnI W' W.heap.size (W.heap.size + 1) (.slice (some ⟨W.heap.size, 0, none⟩) n n) xs) : St w1 W' ((W.heap.size, xs) :: L) := by
  obtain ⟨rfl, hs, _⟩ := ho.num
  refine ⟨fun p hp => ?_, h.bel.trans (hb.mono h.bel.size)⟩
  rcases List.mem_cons.1 hp with rfl | hp
  · exact ⟨ho, h.bel.size, hs⟩
  · obtain ⟨a, b, c⟩ := h.own p hp
    exact ⟨a.belowW hb, b, Nat.lt_of_lt_of_le c hb.size⟩
theorem St.lit {w1 W : World} {L : List (Nat × List Int)} (h : St w1 W L) (x : Int) : St w1 (W.alloc (.cells #[.int .i64 x] 3)) ((W.heap.size, [x]) :: L) := by
  refine h.step (n := 1) ((Below.refl _ _).alloc (Nat.le_refl _) _) ⟨World.ownsRow_lit (e := 3) (size := 1) (base := W.heap.size) W #[.int .i64 x] 1 (Nat.le_refl _) (by unfold maxLen; omega) rfl, fun k e => by simp [Value.ownBlock] at e; omega⟩
theorem St.get {w1 W : World} {L : List (Nat × List Int)} {g n : Nat} {xs : List Int} (h : St w1 W L) (hm : (g, xs) ∈ L) (hl : xs.length = n) : OwnI W g (g + 1) (.slice (some ⟨g, 0, none⟩) n n) xs := by
  subst hl
  exact (h.own _ hm).1
theorem St.at_ {w1 W : World} {L : List (Nat × List Int)} {g : Nat} {xs : List Int} (h : St w1 W L) (hm : (g, xs) ∈ L) : w1.heap.size ≤ g ∧ g < W.heap.size := (h.own _ hm).2
theorem repeat_St {w1 : World} {b c n : Nat} {x : Int} {L : List (Nat × List Int)} (W : World) (h : St w1 W L) (hm : (b, [x]) ∈ L) (h1 : 1 ≤ n) (h6 : n ≤ 6) :
    Calls Try.prog 43 #[.slice (some ⟨b, 0, none⟩) 1 c, .int .i64 (n : Int)] W fun e w' => e = .returned (.slice (some ⟨W.heap.size, 0, none⟩) n n) ∧ St w1 w' ((W.heap.size, List.replicate n x) :: L) ∧ W.heap.size < w'.heap.size := by
  refine (repeat1_any b 0 c x n W ((h.get hm rfl).cellAt 0 (by simp)) h1 h6).mono ?_
  rintro e w' ⟨he, ho, hb⟩
  have := h.step hb ho
  exact ⟨he, this, (this.at_ (List.mem_cons_self)).2⟩
theorem upon_make_St {o : Oper} {a : Act} {K : Act → World → Prop} {Q : Exit → Act → World → Prop} {w1 : World} {n : Nat} {L : List (Nat × List Int)} (W : World) (h : St w1 W L) (hn : n ≤ 1000000)
    (hK : ∀ w', St w1 w' ((W.heap.size, List.replicate n 0) :: L) → W.heap.size < w'.heap.size → K (a.put o.dst (.slice (some ⟨W.heap.size, 0, none⟩) n n)) w') :
    Oper.upon Try.prog o a K Q ((Sem.run Try.prog (Instr.makeSlice 33 (.int .i64 (n : Int)) (.int .i64 (n : Int))) W).andThen fun v w' => .ok (.value v) w') := by
  obtain ⟨i0, hi, hz0, hz1, hz2⟩ := info_parts infoI
  have hrun := run_make (P := Try.prog) W 33 3 i0 (.int .i64 0) Try.underlying33 hi hz0 .i64 .i64 n n (by omega) (by omega) (by rw [hz2]; omega) (by omega)
  simp only [Int.toNat_natCast, hz1, Nat.mul_one] at hrun
  rw [hrun]
  have h1 := World.ownsRow_lit (e := 3) (size := 1) (base := W.heap.size) W (madeCells #[Value.int .i64 0] n) n (Nat.le_refl _) (by unfold maxLen; omega) (by simp [size_madeCells])
  rw [toList_madeCells_one] at h1
  have h2 : OwnI (W.alloc (.cells (madeCells #[Value.int .i64 0] n) 3)) W.heap.size (W.heap.size + 1) (.slice (some ⟨W.heap.size, 0, none⟩) n n) (List.replicate n 0) := ⟨by simpa [Value.cells] using h1, fun k e => by simp [Value.ownBlock] at e; omega⟩
  have h3 := h.step ((Below.refl _ _).alloc (Nat.le_refl _) _) h2
  exact hK _ h3 (h3.at_ (List.mem_cons_self)).2
end Go.Proofs.Ytbhkpingpipdpaa
