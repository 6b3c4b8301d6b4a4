/- Plain lemmas on worlds: a slice that reads as a list of integers, a row of the call's own. No program is walked here. -/
import Derived.Test.YtcanmmmlppkamaaRows
import Derived.WalkKit
import Derived.Handy
import Derived.Maps.AppendAt
import Derived.Deep.AppendLies
import Derived.Laws.CopyOwn
import Derived.Lib.Hide
import Derived.WalkSmall
import Derived.Deep.QuietTactic
import Derived.BigQuiet
import Derived.RegionTactic
import Derived.Deep.RegionHeld3
namespace Go.Proofs.Ytcanmmmlppkamaa
open Go.RowKit

theorem infoI : (Try.prog.info? 3).map (fun i => (i.zero, i.size, i.bytes)) = some (some (.int .i64 0), 1, 8) := by kernel_rfl

theorem ret_b {a b : Bool} (h : a = b) : Ending.returned (.bool a) = .returned (.bool b) := by rw [h]
theorem ret_i {a b : Int} (h : a = b) : Ending.returned (.int .i64 a) = .returned (.int .i64 b) := by rw [h]

/-- element j of a list, behind a name that the walk does not open -/
def ix (xs : List Int) (j : Nat) : Int := xs.getD j 0
theorem ix_lt {xs : List Int} {j : Nat} (h : j < xs.length) : ix xs j = xs[j] := by unfold ix; simp [List.getD, h]
theorem ix_ge {xs : List Int} {j : Nat} (h : xs.length ≤ j) : ix xs j = 0 := by unfold ix; simp [List.getD, h]
theorem ix_mem {xs : List Int} {j : Nat} (h : j < xs.length) : ix xs j ∈ xs := by rw [ix_lt h]; exact List.getElem_mem h
theorem take_ix {xs : List Int} {k : Nat} (h : k < xs.length) : xs.take (k + 1) = xs.take k ++ [ix xs k] := by
  rw [List.take_succ_eq_append_getElem h, ix_lt h]

/-- the integers xs lie at A -/
def IntsAt (w : World) (A : Option Addr) (n : Nat) (xs : List Int) : Prop :=
  xs.length = n ∧ (0 < n → ∃ b o, A = some ⟨b, o, none⟩ ∧ ∀ j, j < n → w.cell? ⟨b, o + j, none⟩ = some (.int .i64 (ix xs j)))

/-- the slice value v is a row of the call's own, made from block 'base' on, that holds xs -/
def OwnI (w : World) (base : Nat) (v : Value) (xs : List Int) : Prop := w.ownsRow base 3 1 v xs.length (xs.map (Value.int .i64))

section
variable {w w' : World} {A : Option Addr} {n : Nat} {xs : List Int} {v : Value} {base B : Nat}

theorem bcell {W w1 : World} (hb : Below B W w1) (hB : B = W.heap.size) : (∀ b o, b < W.heap.size → w1.cell? ⟨b, o, none⟩ = W.cell? ⟨b, o, none⟩) ∧ (∀ b o, b < W.heap.size → w1.frozen? ⟨b, o, none⟩ = W.frozen? ⟨b, o, none⟩) := by
  subst hB
  exact ⟨fun b o h => hb.cell (p := ⟨b, o, none⟩) h, fun b o h => hb.frozen (p := ⟨b, o, none⟩) h⟩

theorem cell_lt {b o : Nat} {s : Option Nat} {u : Value} (h : w.cell? ⟨b, o, s⟩ = some u) : b < w.heap.size := World.block_lt_of_cell? w _ h

theorem IntsAt.nil (w : World) (A : Option Addr) : IntsAt w A 0 [] := ⟨rfl, fun h => absurd h (by omega)⟩

theorem IntsAt.len (h : IntsAt w A n xs) : xs.length = n := h.1

theorem IntsAt.at_ {k : Nat} (h : IntsAt w A n xs) (hk : k < n) : ∃ b o, A = some ⟨b, o, none⟩ ∧ b < w.heap.size ∧ ∀ j, j < n → w.cell? ⟨b, o + j, none⟩ = some (.int .i64 (ix xs j)) := by
  obtain ⟨b, o, e, hc⟩ := h.2 (by omega)
  exact ⟨b, o, e, cell_lt (hc 0 (by omega)), hc⟩

/-- kept where every block below B is, the integers lying below B -/
theorem IntsAt.keepB (h : IntsAt w A n xs) (hlt : ∀ a, A = some a → 0 < n → a.block < B) (hb : Below B w w') : IntsAt w' A n xs := by
  refine ⟨h.1, fun hn => ?_⟩
  obtain ⟨b, o, e, hc⟩ := h.2 hn
  exact ⟨b, o, e, fun j hj => (hb.cell (p := ⟨b, o + j, none⟩) (by simpa using hlt _ e hn)).trans (hc j hj)⟩

theorem IntsAt.below (h : IntsAt w A n xs) (hb : Below w.heap.size w w') : IntsAt w' A n xs :=
  h.keepB (fun a e hn => by
    obtain ⟨b, o, e', hlt, _⟩ := h.at_ hn
    rw [e] at e'
    cases e'
    exact hlt) hb

theorem IntsAt.grown {row : Option Nat} (h : IntsAt w A n xs) (hg : w.grownBy w' row) (hne : ∀ a, A = some a → 0 < n → some a.block ≠ row) : IntsAt w' A n xs := by
  refine ⟨h.1, fun hn => ?_⟩
  obtain ⟨b, o, e, hc⟩ := h.2 hn
  exact ⟨b, o, e, fun j hj => hg.cell (a := ⟨b, o + j, none⟩) (hc j hj) (by simpa using hne _ e hn)⟩

theorem IntsAt.drewN (h : IntsAt w A n xs) (m : Nat) : IntsAt (w.drewN m) A n xs := h

theorem OwnI.drewN (h : OwnI w base v xs) (m : Nat) : OwnI (w.drewN m) base v xs := h

theorem below_of_drewN {m : Nat} (h : w' = w.drewN m) : Below B w w' := by subst h; exact below_drewN (Below.refl _ _) _

/-- the rows xss lie at A: a slice of slices of integers -/
def RowsAt (w : World) (A : Option Addr) (n : Nat) (xss : List (List Int)) : Prop :=
  xss.length = n ∧ (0 < n → ∃ b o, A = some ⟨b, o, none⟩ ∧ ∀ j, j < n → ∃ A' n' c', w.cell? ⟨b, o + j, none⟩ = some (.slice A' n' c') ∧ n' ≤ c' ∧ IntsAt w A' n' (xss.getD j []))

theorem OwnI.len (h : OwnI w base v xs) : ∃ A c, v = .slice A xs.length c ∧ xs.length ≤ c := by
  rcases h.2 with ⟨rfl, h0⟩ | ⟨g, cap, cur, rfl, _, _, hc, _⟩
  · exact ⟨none, 0, by rw [h0], by omega⟩
  · exact ⟨_, _, rfl, hc⟩

theorem OwnI.form (h : OwnI w base v xs) : ∃ A c, v = .slice A xs.length c ∧ xs.length ≤ c ∧ IntsAt w A xs.length xs ∧ (∀ a, A = some a → ∃ g, a = ⟨g, 0, none⟩ ∧ base ≤ g ∧ g < w.heap.size) := by
  rcases h.2 with ⟨rfl, h0⟩ | ⟨g, cap, cur, rfl, hb, hg, hc, hm, hs, ht⟩
  · exact ⟨none, 0, by rw [h0], by omega, ⟨rfl, fun hn => by omega⟩, fun a e => by cases e⟩
  · refine ⟨_, _, rfl, hc, ⟨rfl, fun hn => ⟨g, 0, rfl, fun j hj => ?_⟩⟩, fun a e => by cases e; exact ⟨g, rfl, hb, (Array.getElem?_eq_some_iff.1 hg).1⟩⟩
    rw [Nat.zero_add]
    have := h.cellAt j (by omega)
    rw [this]
    simp [hj, ix_lt hj]

theorem OwnI.ints {c : Nat} (h : OwnI w base (.slice A n c) xs) : IntsAt w A n xs ∧ xs.length = n ∧ n ≤ c ∧ (∀ a, A = some a → ∃ g, a = ⟨g, 0, none⟩ ∧ base ≤ g ∧ g < w.heap.size) := by
  obtain ⟨A', c', e, h1, h2, h3⟩ := h.form
  cases e
  exact ⟨h2, rfl, h1, h3⟩

theorem OwnI.below (h : OwnI w base v xs) (hb : Below w.heap.size w w') : OwnI w' base v xs := by
  refine ⟨h.1, ?_⟩
  rcases h.2 with h0 | ⟨g, cap, cur, hv, hgb, hg, r⟩
  · exact .inl h0
  · exact .inr ⟨g, cap, cur, hv, hgb, by rw [hb.block g (Array.getElem?_eq_some_iff.1 hg).1]; exact hg, r⟩

theorem OwnI.grown {row : Option Nat} (h : OwnI w base v xs) (hg : w.grownBy w' row) (hne : v.ownBlock = none ∨ v.ownBlock ≠ row) : OwnI w' base v xs := World.ownsRow.kept h hg hne

theorem OwnI.mono {base' : Nat} (h : OwnI w base v xs) (hb : base' ≤ base) : OwnI w base' v xs := by
  refine ⟨h.1, ?_⟩
  rcases h.2 with h0 | ⟨g, cap, cur, hv, hgb, r⟩
  · exact .inl h0
  · exact .inr ⟨g, cap, cur, hv, by omega, r⟩

theorem OwnI.nil (w : World) (base : Nat) : OwnI w base (.slice none 0 0) [] := World.ownsRow_nil _ _ _ _

theorem below_of_grown {row : Option Nat} (hg : w.grownBy w' row) (hr : ∀ k, row = some k → B ≤ k) (hB : B ≤ w.heap.size) : Below B w w' := (Below.refl B w).grown hg hB hr

/-- a store into a row of the call's own -/
theorem OwnI.stored {g c : Nat} (h : OwnI w base (.slice (some ⟨g, 0, none⟩) n c) xs) (j : Nat) (x : Int) :
    OwnI (w.setCell ⟨g, j, none⟩ (.int .i64 x)) base (.slice (some ⟨g, 0, none⟩) n c) (xs.set j x) ∧ w.grownBy (w.setCell ⟨g, j, none⟩ (.int .i64 x)) (some g) := by
  obtain rfl := h.ints.2.1
  have h1 := World.ownsRow.stored h j (.int .i64 x)
  refine ⟨?_, h1.2⟩
  unfold OwnI
  rw [List.length_set, List.map_set]
  exact h1.1

theorem OwnI.num {g c : Nat} (h : OwnI w base (.slice (some ⟨g, 0, none⟩) n c) xs) : xs.length = n ∧ g < w.heap.size ∧ base ≤ g :=
  ⟨h.ints.2.1, by obtain ⟨g', e, _, h2⟩ := h.ints.2.2.2 _ rfl; cases e; exact h2, by obtain ⟨g', e, h2, _⟩ := h.ints.2.2.2 _ rfl; cases e; exact h2⟩

theorem OwnI.cellAt {g c : Nat} (h : OwnI w base (.slice (some ⟨g, 0, none⟩) n c) xs) (j : Nat) (hj : j < n) : w.cell? ⟨g, j, none⟩ = some (.int .i64 (ix xs j)) := by
  obtain ⟨rfl, _⟩ := h.num
  have := World.ownsRow.cellAt h j (by omega)
  rw [this]
  simp [hj, ix_lt hj]

theorem OwnI.frozenAt {g c : Nat} (h : OwnI w base (.slice (some ⟨g, 0, none⟩) n c) xs) (j : Nat) : w.frozen? ⟨g, j, none⟩ = false := by
  obtain ⟨rfl, _⟩ := h.num
  exact World.ownsRow.frozenAt h j

theorem OwnI.alloc (h : OwnI w base v xs) (o : Obj) : OwnI (w.alloc o) base v xs := World.ownsRow.alloc h o

theorem OwnI.block_ge (h : OwnI w base v xs) : ∀ k, v.ownBlock = some k → base ≤ k ∧ k < w.heap.size := World.ownsRow.lt h
end

section
variable {ops : Array Oper} {rest : List Oper} {o : Oper} {a : Act} {Q : Exit → Act → World → Prop}

/-- 'make([]int, n)' -/
theorem wpList_make_ints (w : World) (hg : o.guard = none) (l c : Operand) (hop : o.op = Op.makeSlice 29 l c) (base n : Nat)
    (hl : a.eval l = .int .i64 (n : Int)) (hc : a.eval c = .int .i64 (n : Int)) (hn : n ≤ 1099511627776) (hbase : base ≤ w.heap.size)
    (hK : ∀ w', OwnI w' base (.slice (some ⟨w.heap.size, 0, none⟩) n n) (List.replicate n 0) → Below w.heap.size w w' → w'.heap.size = w.heap.size + 1 → wpList Try.prog ops Q rest (a.put o.dst (.slice (some ⟨w.heap.size, 0, none⟩) n n)) w') :
    wpList Try.prog ops Q (o :: rest) a w := by
  obtain ⟨i0, hi, hz0, hz1, hz2⟩ := info_parts infoI
  refine wpList_plain hg fun K hK' => ?_
  have hrun := run_make (P := Try.prog) w 29 3 i0 (.int .i64 0) Try.underlying29 hi hz0 .i64 .i64 n n (by omega) (by omega) (by rw [hz2]; omega) (by omega)
  simp only [Int.toNat_natCast, hz1, Nat.mul_one] at hrun
  unfold Oper.wp
  simp [execOp, hop, hl, hc, hrun, Result.andThen]
  refine hK' _ _ (hK _ ?_ ((Below.refl _ _).alloc (Nat.le_refl _) _) (by simp))
  have h1 := World.ownsRow_lit (e := 3) (size := 1) (base := base) w (madeCells #[Value.int .i64 0] n) n hbase (by unfold maxLen; omega) (by simp [size_madeCells])
  rw [toList_madeCells_one] at h1
  unfold OwnI
  simpa [Value.cells] using h1

/-- 'out = append(out, x)' where out is nil or the call's own -/
theorem wpList_append_int (w : World) (hg : o.guard = none) (s x : Operand) (hop : o.op = Op.call { callee := Callee.builtin Builtin.append, args := #[s, x], argTypes := #[29, 29] })
    (base n c : Nat) (A : Option Addr) (xs : List Int) (hlen : xs.length = n) (hs : a.eval s = .slice A n c) (hown : OwnI w base (.slice A n c) xs)
    (y : Int) (b cc : Nat) (hx : a.eval x = .slice (some ⟨b, 0, none⟩) 1 cc) (hcell : w.cell? ⟨b, 0, none⟩ = some (.int .i64 y)) (hn : n ≤ 1099511627776) (hbase : base ≤ w.heap.size)
    (hK : ∀ A' c' w', OwnI w' base (.slice A' (n + 1) c') (xs ++ [y]) → Below base w w' → wpList Try.prog ops Q rest (a.put o.dst (.slice A' (n + 1) c')) w') :
    wpList Try.prog ops Q (o :: rest) a w := by
  obtain ⟨i0, hi, hz0, hz1, hz2⟩ := info_parts infoI
  subst hlen
  refine wpList_append_own_at w hg s x 29 hop base 3 i0 (.int .i64 0) 1 8 Try.underlying29 hi hz0 hz1 hz2 rfl (by decide) _ xs.length _ hs hown ⟨b, 0, none⟩ 1 cc [.int .i64 y] hx rfl ?_ ?_ (by unfold maxLen; omega) (by omega) hbase ?_
  · intro j u hj
    match j, hj with
    | 0, hj => simp at hj; subst hj; simpa [Addr.add] using hcell
  · intro u hu; simp at hu; subst hu; rfl
  · intro v' w' hown' hgrow _ _
    have h2 : OwnI w' base v' (xs ++ [y]) := by
      unfold OwnI
      rw [List.map_append, List.length_append]
      exact hown'
    obtain ⟨A', c', e, _⟩ := h2.len
    rw [List.length_append] at e
    subst e
    exact hK A' c' w' h2 (below_of_grown hgrow (fun k e => (hown.block_ge k e).1) hbase)
end
end Go.Proofs.Ytcanmmmlppkamaa
