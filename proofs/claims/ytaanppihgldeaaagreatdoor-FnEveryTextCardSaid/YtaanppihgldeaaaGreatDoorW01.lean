/- Plain lemmas on worlds: a slice that reads as a list of integers, a row of the call's own. No program is walked here. An argument's reading opened: what the walks are told of it. -/
import Derived.Test.YtaanppihgldeaaaGreatDoorRows
import Derived.WalkKit
import Derived.Handy
import Derived.Maps.AppendAt
import Derived.Deep.AppendLies
import Derived.Laws.CopyOwn
import Derived.Lib.Hide
import Derived.WalkSmall
import Derived.Deep.QuietTactic
import Derived.BigQuiet
import Derived.RegionTactic
import Derived.Deep.RegionHeld3
import Derived.WalkSpells
import Derived.ProofKit
import Derived.OpenShut
import Derived.ShutString
import Derived.ChangeOld
import Derived.Below
import Derived.Deep.Matrix
namespace Go.Proofs.YtaanppihgldeaaaGreatDoor
set_option linter.unusedSimpArgs false
set_option linter.unusedVariables false
set_option linter.unusedVariables false
open Go.RowKit

theorem infoI : (Tryz.prog.info? 3).map (fun i => (i.zero, i.size, i.bytes)) = some (some (.int .i64 0), 1, 8) := by kernel_rfl

/-- a callee's contract inside a quiet region, behind draws that are there already -/
theorem quiet_add {P : Program} {f : FuncId} {args : Array Value} {w : World} {a n : Nat} {v : Value}
    (h : Calls P f args (w.drewN (a + n)) fun e w' => e = .returned v ∧ ∃ m, w' = (w.drewN (a + n)).drewN m) :
    Calls P f args (w.drewN (a + n)) fun e w'' => e = .returned v ∧ ∃ m, w'' = w.drewN (a + m) :=
  h.mono fun _ _ ⟨he, m, hm⟩ => ⟨he, n + m, by rw [hm, World.drewN_drewN, Nat.add_assoc]⟩

theorem ret_b {a b : Bool} (h : a = b) : Ending.returned (.bool a) = .returned (.bool b) := by rw [h]
theorem ret_i {a b : Int} (h : a = b) : Ending.returned (.int .i64 a) = .returned (.int .i64 b) := by rw [h]

/-- a world in which all that lay in w lies as it did: for a region that draws its order and holds calls that make memory but hand back numbers alone -/
structure Later (w : World) where
  W : World
  h : Below w.heap.size w W

instance Later.any (w : World) : Nonempty (Later w) := ⟨⟨w, Below.refl _ _⟩⟩

theorem wp_region_later {P : Program} {id : Nat} {Q : Exit → Act → World → Prop} {a : Act} {w : World} {l : List Oper} (hm : P.follows .mixedOrders = true) (hB : Region.lexB .any l.toArray = true)
    (h : wpQuiet P l.toArray (fun w' => ∃ L : Later w, w' = L.W) (fun a' => ∀ w', (∃ L : Later w, w' = L.W) → Q .normal a' w') l a) : (Code.region id l.toArray true).wp P Q a w :=
  wp_region_quiet (C := fun w' => ∃ L : Later w, w' = L.W) hm hB ⟨⟨w.drew, (Below.refl _ _).drew⟩, rfl⟩ (by simpa using h)

theorem Later.cell {w : World} (L : Later w) {p : Addr} {u : Value} (h : w.cell? p = some u) : L.W.cell? p = some u := (L.h.cell (World.block_lt_of_cell? w _ h)).trans h

theorem Later.call {P : Program} {f : FuncId} {args : Array Value} {w : World} {v : Value} (L : Later w)
    (h : Calls P f args L.W fun e w' => e = .returned v ∧ Below L.W.heap.size L.W w') : Calls P f args L.W fun e w' => e = .returned v ∧ ∃ L' : Later w, w' = L'.W :=
  h.mono fun _ w' ⟨h1, h2⟩ => ⟨h1, ⟨⟨w', L.h.trans (h2.mono L.h.size)⟩, rfl⟩⟩
theorem Later.call_same {P : Program} {f : FuncId} {args : Array Value} {w : World} {v : Value} (L : Later w)
    (h : Calls P f args L.W fun e w' => e = .returned v ∧ L.W = w') : Calls P f args L.W fun e w' => e = .returned v ∧ ∃ L' : Later w, w' = L'.W :=
  h.mono fun _ w' ⟨h1, h2⟩ => ⟨h1, ⟨L, h2.symm⟩⟩

/-- p holds of all numbers below n -/
def allN (p : Nat → Bool) : Nat → Bool
  | 0 => true
  | n + 1 => allN p n && p n
theorem allN_step {p : Nat → Bool} {k : Nat} (h : allN p k = true) (hp : p k = true) : allN p (k + 1) = true := by simp [allN, h, hp]
theorem allN_false {p : Nat → Bool} {k n : Nat} (hk : k < n) (hp : p k = false) : allN p n = false := by
  induction n with
  | zero => omega
  | succ n ih =>
    by_cases e : k = n
    · subst e; simp [allN, hp]
    · simp [allN, ih (by omega)]
theorem allN_iff {p : Nat → Bool} {n : Nat} : allN p n = true ↔ ∀ k, k < n → p k = true := by
  induction n with
  | zero => simp [allN]
  | succ n ih =>
    simp only [allN, Bool.and_eq_true, ih]
    constructor
    · intro h k hk
      by_cases e : k = n
      · subst e; exact h.2
      · exact h.1 k (by omega)
    · exact fun h => ⟨fun k hk => h k (by omega), h n (by omega)⟩

/-- element j of a list, behind a name that the walk does not open -/
def ix (xs : List Int) (j : Nat) : Int := xs.getD j 0
theorem ix_lt {xs : List Int} {j : Nat} (h : j < xs.length) : ix xs j = xs[j] := by unfold ix; simp [List.getD, h]
theorem ix_ge {xs : List Int} {j : Nat} (h : xs.length ≤ j) : ix xs j = 0 := by unfold ix; simp [List.getD, h]
theorem ix_mem {xs : List Int} {j : Nat} (h : j < xs.length) : ix xs j ∈ xs := by rw [ix_lt h]; exact List.getElem_mem h
theorem take_ix {xs : List Int} {k : Nat} (h : k < xs.length) : xs.take (k + 1) = xs.take k ++ [ix xs k] := by
  rw [List.take_succ_eq_append_getElem h, ix_lt h]

/-- the integers xs lie at A -/
def IntsAt (w : World) (A : Option Addr) (n : Nat) (xs : List Int) : Prop :=
  xs.length = n ∧ (0 < n → ∃ b o, A = some ⟨b, o, none⟩ ∧ ∀ j, j < n → w.cell? ⟨b, o + j, none⟩ = some (.int .i64 (ix xs j)))

/-- the slice value v is a row of integers of the call's own: it holds xs, and lies in a block from lo on, below hi -/
def OwnI (w : World) (lo hi : Nat) (v : Value) (xs : List Int) : Prop := w.ownsRow lo 3 1 v xs.length (xs.map (Value.int .i64)) ∧ ∀ k, v.ownBlock = some k → k < hi

/-- what was there is as it was, but for blocks from lo on, below hi -/
structure Only (lo hi : Nat) (w w' : World) : Prop where
  os : w'.os = w.os
  tape : w'.tape = w.tape
  output : w'.output = w.output
  size : w.heap.size ≤ w'.heap.size
  block : ∀ k, k < w.heap.size → ¬ (lo ≤ k ∧ k < hi) → w'.heap[k]? = w.heap[k]?

section
variable {w w' : World} {A : Option Addr} {n : Nat} {xs : List Int} {v : Value} {lo hi B : Nat}

theorem bcell {W w1 : World} (hb : Below B W w1) (hB : B = W.heap.size) : (∀ b o, b < W.heap.size → w1.cell? ⟨b, o, none⟩ = W.cell? ⟨b, o, none⟩) ∧ (∀ b o, b < W.heap.size → w1.frozen? ⟨b, o, none⟩ = W.frozen? ⟨b, o, none⟩) := by
  subst hB
  exact ⟨fun b o h => hb.cell (p := ⟨b, o, none⟩) h, fun b o h => hb.frozen (p := ⟨b, o, none⟩) h⟩

theorem cell_lt {b o : Nat} {s : Option Nat} {u : Value} (h : w.cell? ⟨b, o, s⟩ = some u) : b < w.heap.size := World.block_lt_of_cell? w _ h

theorem new_cell (w : World) (u : Value) (t : TypeId) {g : Nat} (hg : g = w.heap.size) : (w.alloc (.cells #[u] t)).cell? ⟨g, 0, none⟩ = some u := by
  subst hg
  rw [cell_of_row _ _ 0 #[u] t (0, 0) (heap_alloc_new w _)]
  rfl
theorem new_free (w : World) (cs : Array Value) (t : TypeId) {g : Nat} (hg : g = w.heap.size) (j : Nat) : (w.alloc (.cells cs t)).frozen? ⟨g, j, none⟩ = false := by
  subst hg
  exact frozen_of_row _ _ j cs t (heap_alloc_new w _)
theorem old_cell {w : World} {p : Addr} {u : Value} (h : w.cell? p = some u) (o : Obj) : (w.alloc o).cell? p = some u := by
  have hl : p.block < w.heap.size := World.block_lt_of_cell? w _ h
  exact (((Below.refl w.heap.size w).alloc (Nat.le_refl _) o).cell hl).trans h

theorem old_free {w : World} {p : Addr} {u : Value} (h : w.cell? p = some u) (hf : w.frozen? p = false) (o : Obj) : (w.alloc o).frozen? p = false := by
  have hl : p.block < w.heap.size := World.block_lt_of_cell? w _ h
  exact (((Below.refl w.heap.size w).alloc (Nat.le_refl _) o).frozen hl).trans hf

theorem IntsAt.nil (w : World) (A : Option Addr) : IntsAt w A 0 [] := ⟨rfl, fun h => absurd h (by omega)⟩

theorem IntsAt.len (h : IntsAt w A n xs) : xs.length = n := h.1

theorem IntsAt.at_ {k : Nat} (h : IntsAt w A n xs) (hk : k < n) : ∃ b o, A = some ⟨b, o, none⟩ ∧ b < w.heap.size ∧ ∀ j, j < n → w.cell? ⟨b, o + j, none⟩ = some (.int .i64 (ix xs j)) := by
  obtain ⟨b, o, e, hc⟩ := h.2 (by omega)
  exact ⟨b, o, e, cell_lt (hc 0 (by omega)), hc⟩

/-- kept where every block below B is, the integers lying below B -/
theorem IntsAt.keepB (h : IntsAt w A n xs) (hlt : ∀ a, A = some a → 0 < n → a.block < B) (hb : Below B w w') : IntsAt w' A n xs := by
  refine ⟨h.1, fun hn => ?_⟩
  obtain ⟨b, o, e, hc⟩ := h.2 hn
  exact ⟨b, o, e, fun j hj => (hb.cell (p := ⟨b, o + j, none⟩) (by simpa using hlt _ e hn)).trans (hc j hj)⟩

theorem IntsAt.below (h : IntsAt w A n xs) (hb : Below w.heap.size w w') : IntsAt w' A n xs :=
  h.keepB (fun a e hn => by
    obtain ⟨b, o, e', hlt, _⟩ := h.at_ hn
    rw [e] at e'
    cases e'
    exact hlt) hb

theorem IntsAt.grown {row : Option Nat} (h : IntsAt w A n xs) (hg : w.grownBy w' row) (hne : ∀ a, A = some a → 0 < n → some a.block ≠ row) : IntsAt w' A n xs := by
  refine ⟨h.1, fun hn => ?_⟩
  obtain ⟨b, o, e, hc⟩ := h.2 hn
  exact ⟨b, o, e, fun j hj => hg.cell (a := ⟨b, o + j, none⟩) (hc j hj) (by simpa using hne _ e hn)⟩

theorem IntsAt.drewN (h : IntsAt w A n xs) (m : Nat) : IntsAt (w.drewN m) A n xs := h

theorem below_of_drewN {m : Nat} (h : w' = w.drewN m) : Below B w w' := by subst h; exact below_drewN (Below.refl _ _) _

theorem all_take_ix {xs : List Int} {k : Nat} {p : Int → Bool} (h : k < xs.length) (ha : (xs.take k).all p = true) (hp : p (ix xs k) = true) : (xs.take (k + 1)).all p = true := by
  rw [take_ix h, List.all_append, ha]; simp [hp]
theorem all_ix_false {xs : List Int} {k : Nat} {p : Int → Bool} (h : k < xs.length) (hp : p (ix xs k) = false) : xs.all p = false := by
  rw [List.all_eq_false]; exact ⟨_, ix_mem h, by simp [hp]⟩
theorem all_take_end {α : Type} {xs : List α} {k : Nat} {p : α → Bool} (h : xs.length ≤ k) (ha : (xs.take k).all p = true) : xs.all p = true := by
  rwa [List.take_of_length_le h] at ha

/-- the rows xss lie at A: a slice of slices of integers -/
def RowsAt (w : World) (A : Option Addr) (n : Nat) (xss : List (List Int)) : Prop :=
  xss.length = n ∧ (0 < n → ∃ b o, A = some ⟨b, o, none⟩ ∧ ∀ j, j < n → ∃ A' n' c', w.cell? ⟨b, o + j, none⟩ = some (.slice A' n' c') ∧ n' ≤ c' ∧ IntsAt w A' n' (xss.getD j []))

theorem RowsAt.len {xss : List (List Int)} (h : RowsAt w A n xss) : xss.length = n := h.1

/-- row j of a list of rows, behind a name that the walk does not open -/
def rx (xss : List (List Int)) (j : Nat) : List Int := xss.getD j []
theorem rx_lt {xss : List (List Int)} {j : Nat} (h : j < xss.length) : rx xss j = xss[j] := by unfold rx; simp [List.getD, h]
theorem rx_mem {xss : List (List Int)} {j : Nat} (h : j < xss.length) : rx xss j ∈ xss := by rw [rx_lt h]; exact List.getElem_mem h
theorem take_rx {xss : List (List Int)} {k : Nat} (h : k < xss.length) : xss.take (k + 1) = xss.take k ++ [rx xss k] := by
  rw [List.take_succ_eq_append_getElem h, rx_lt h]

theorem all_take_rx {xss : List (List Int)} {k : Nat} {p : List Int → Bool} (h : k < xss.length) (ha : (xss.take k).all p = true) (hp : p (rx xss k) = true) : (xss.take (k + 1)).all p = true := by
  rw [take_rx h, List.all_append, ha]; simp [hp]
theorem all_rx_false {xss : List (List Int)} {k : Nat} {p : List Int → Bool} (h : k < xss.length) (hp : p (rx xss k) = false) : xss.all p = false := by
  rw [List.all_eq_false]; exact ⟨_, rx_mem h, by simp [hp]⟩

/-- row k, and where it lies -/
theorem RowsAt.at_ {k : Nat} {xss : List (List Int)} (h : RowsAt w A n xss) (hk : k < n) : ∃ b o A' c', A = some ⟨b, o, none⟩ ∧ b < w.heap.size ∧ w.cell? ⟨b, o + k, none⟩ = some (.slice A' (rx xss k).length c') ∧ (rx xss k).length ≤ c' ∧ IntsAt w A' (rx xss k).length (rx xss k) := by
  obtain ⟨b, o, e, hc⟩ := h.2 (by omega)
  obtain ⟨A', n', c', h1, h2, h3⟩ := hc k hk
  obtain rfl := h3.1
  exact ⟨b, o, A', c', e, cell_lt h1, h1, h2, h3⟩

theorem RowsAt.below {xss : List (List Int)} (h : RowsAt w A n xss) (hb : Below w.heap.size w w') : RowsAt w' A n xss := by
  refine ⟨h.1, fun hn => ?_⟩
  obtain ⟨b, o, e, hc⟩ := h.2 hn
  refine ⟨b, o, e, fun j hj => ?_⟩
  obtain ⟨A', n', c', h1, h2, h3⟩ := hc j hj
  exact ⟨A', n', c', (hb.cell (p := ⟨b, o + j, none⟩) (cell_lt h1)).trans h1, h2, h3.below hb⟩

theorem RowsAt.drewN {xss : List (List Int)} (h : RowsAt w A n xss) (m : Nat) : RowsAt (w.drewN m) A n xss := h

theorem OwnI.len (h : OwnI w lo hi v xs) : ∃ A c, v = .slice A xs.length c ∧ xs.length ≤ c := by
  rcases h.1.2 with ⟨rfl, h0⟩ | ⟨g, cap, cur, rfl, _, _, hc, _⟩
  · exact ⟨none, 0, by rw [h0], by omega⟩
  · exact ⟨_, _, rfl, hc⟩

theorem OwnI.form (h : OwnI w lo hi v xs) : ∃ A c, v = .slice A xs.length c ∧ xs.length ≤ c ∧ IntsAt w A xs.length xs ∧ (∀ a, A = some a → ∃ g, a = ⟨g, 0, none⟩ ∧ lo ≤ g ∧ g < hi ∧ g < w.heap.size) := by
  obtain ⟨h, hh⟩ := h
  rcases h.2 with ⟨rfl, h0⟩ | ⟨g, cap, cur, rfl, hb, hg, hc, hm, hs, ht⟩
  · exact ⟨none, 0, by rw [h0], by omega, ⟨rfl, fun hn => by omega⟩, fun a e => by cases e⟩
  · refine ⟨_, _, rfl, hc, ⟨rfl, fun hn => ⟨g, 0, rfl, fun j hj => ?_⟩⟩, fun a e => by cases e; exact ⟨g, rfl, hb, hh g rfl, (Array.getElem?_eq_some_iff.1 hg).1⟩⟩
    rw [Nat.zero_add]
    have := h.cellAt j (by omega)
    rw [this]
    simp [hj, ix_lt hj]

theorem OwnI.ints {c : Nat} (h : OwnI w lo hi (.slice A n c) xs) : IntsAt w A n xs ∧ xs.length = n ∧ n ≤ c ∧ (∀ a, A = some a → ∃ g, a = ⟨g, 0, none⟩ ∧ lo ≤ g ∧ g < hi ∧ g < w.heap.size) := by
  obtain ⟨A', c', e, h1, h2, h3⟩ := h.form
  cases e
  exact ⟨h2, rfl, h1, h3⟩

theorem OwnI.at_ {c : Nat} (h : OwnI w lo hi (.slice A n c) xs) : IntsAt w A n xs := h.ints.1

theorem OwnI.keep (h : OwnI w lo hi v xs) (hf : ∀ k, lo ≤ k → k < hi → k < w.heap.size → w'.heap[k]? = w.heap[k]?) : OwnI w' lo hi v xs := by
  refine ⟨⟨h.1.1, ?_⟩, h.2⟩
  rcases h.1.2 with h0 | ⟨g, cap, cur, hv, hgb, hg, r⟩
  · exact .inl h0
  · exact .inr ⟨g, cap, cur, hv, hgb, by rw [hf g hgb (h.2 g (by rw [hv]; rfl)) (Array.getElem?_eq_some_iff.1 hg).1]; exact hg, r⟩

theorem OwnI.below (h : OwnI w lo hi v xs) (hb : Below B w w') (hB : hi ≤ B) : OwnI w' lo hi v xs := h.keep fun k _ hk _ => hb.block k (by omega)

theorem OwnI.belowW (h : OwnI w lo hi v xs) (hb : Below w.heap.size w w') : OwnI w' lo hi v xs := h.keep fun k _ _ hs => hb.block k hs

theorem OwnI.only {l2 h2 : Nat} (h : OwnI w lo hi v xs) (ho : Only l2 h2 w w') (hd : hi ≤ l2 ∨ h2 ≤ lo) : OwnI w' lo hi v xs := h.keep fun k h1 h2 hs => ho.block k hs (by omega)

theorem OwnI.mono {lo' hi' : Nat} (h : OwnI w lo hi v xs) (hl : lo' ≤ lo) (hh : hi ≤ hi') : OwnI w lo' hi' v xs := by
  refine ⟨⟨h.1.1, ?_⟩, fun k hk => by have := h.2 k hk; omega⟩
  rcases h.1.2 with h0 | ⟨g, cap, cur, hv, hgb, r⟩
  · exact .inl h0
  · exact .inr ⟨g, cap, cur, hv, by omega, r⟩

theorem OwnI.nil (w : World) (lo hi : Nat) : OwnI w lo hi (.slice none 0 0) [] := ⟨World.ownsRow_nil _ _ _ _, fun k h => by simp [Value.ownBlock] at h⟩

theorem OwnI.empty (w : World) {lo hi : Nat} (hl : lo ≤ w.heap.size) (hh : w.heap.size < hi) : OwnI (w.alloc (.cells #[] 3)) lo hi (.slice (some ⟨w.heap.size, 0, none⟩) 0 0) [] :=
  ⟨World.ownsRow_lit (e := 3) (size := 1) (base := lo) w #[] 0 hl (by unfold maxLen; omega) rfl, fun k e => by simp [Value.ownBlock] at e; omega⟩

theorem OwnI.drewN (h : OwnI w lo hi v xs) (m : Nat) : OwnI (w.drewN m) lo hi v xs := h

theorem Only.refl (lo hi : Nat) (w : World) : Only lo hi w w := ⟨rfl, rfl, rfl, Nat.le_refl _, fun _ _ _ => rfl⟩
theorem Only.trans {w'' : World} (h : Only lo hi w w') (k : Only lo hi w' w'') : Only lo hi w w'' :=
  ⟨k.os.trans h.os, k.tape.trans h.tape, k.output.trans h.output, Nat.le_trans h.size k.size, fun i hs hi => (k.block i (Nat.lt_of_lt_of_le hs h.size) hi).trans (h.block i hs hi)⟩
theorem Only.toBelow (h : Only lo hi w w') (hB : B ≤ lo) (hs : B ≤ w.heap.size) : Below B w w' := ⟨h.os, h.tape, h.output, h.size, fun k hk => h.block k (by omega) (by omega)⟩
theorem Only.sub {l2 h2 : Nat} (h : Only l2 h2 w w') (hl : lo ≤ l2) (hh : h2 ≤ hi ∨ l2 = h2) : Only lo hi w w' := ⟨h.os, h.tape, h.output, h.size, fun k hs hk => h.block k hs (by omega)⟩
theorem Only.of_below (h : Below B w w') (hB : w.heap.size ≤ B) : Only lo hi w w' := ⟨h.os, h.tape, h.output, h.size, fun k hs _ => h.block k (by omega)⟩
theorem Only.cell {l2 h2 : Nat} {p : Addr} {u : Value} (h : Only l2 h2 w w') (hc : w.cell? p = some u) (hp : ¬ (l2 ≤ p.block ∧ p.block < h2)) : w'.cell? p = some u :=
  (World.cell?_of_block (h.block p.block (World.block_lt_of_cell? w _ hc) hp)).trans hc
theorem Only.frozen {l2 h2 : Nat} {p : Addr} {u : Value} (h : Only l2 h2 w w') (hc : w.cell? p = some u) (hf : w.frozen? p = false) (hp : ¬ (l2 ≤ p.block ∧ p.block < h2)) : w'.frozen? p = false :=
  (World.frozen?_of_block (h.block p.block (World.block_lt_of_cell? w _ hc) hp)).trans hf
theorem Only.mono {lo' hi' : Nat} (h : Only lo hi w w') (hl : lo' ≤ lo) (hh : hi ≤ hi') : Only lo' hi' w w' := ⟨h.os, h.tape, h.output, h.size, fun k hs hk => h.block k hs (by omega)⟩
theorem Only.of_grown {row : Option Nat} (hg : w.grownBy w' row) (hr : ∀ k, row = some k → lo ≤ k ∧ k < hi) : Only lo hi w w' :=
  ⟨hg.os, hg.tape, hg.output, hg.size, fun k hs hk => hg.block k hs fun e => hk (hr k e.symm)⟩

theorem below_of_grown {row : Option Nat} (hg : w.grownBy w' row) (hr : ∀ k, row = some k → B ≤ k) (hB : B ≤ w.heap.size) : Below B w w' := (Below.refl B w).grown hg hB hr

/-- a store into a row of the call's own -/
theorem OwnI.stored {g c : Nat} (h : OwnI w lo hi (.slice (some ⟨g, 0, none⟩) n c) xs) (j : Nat) (x : Int) :
    OwnI (w.setCell ⟨g, j, none⟩ (.int .i64 x)) lo hi (.slice (some ⟨g, 0, none⟩) n c) (xs.set j x) ∧ Only g (g + 1) w (w.setCell ⟨g, j, none⟩ (.int .i64 x)) := by
  obtain rfl := h.ints.2.1
  have h1 := World.ownsRow.stored h.1 j (.int .i64 x)
  refine ⟨⟨?_, h.2⟩, Only.of_grown h1.2 fun k e => by cases e; omega⟩
  rw [List.length_set, List.map_set]
  exact h1.1

theorem OwnI.num {g c : Nat} (h : OwnI w lo hi (.slice (some ⟨g, 0, none⟩) n c) xs) : xs.length = n ∧ g < w.heap.size ∧ lo ≤ g ∧ g < hi := by
  obtain ⟨g', e, h1, h2, h3⟩ := h.ints.2.2.2 _ rfl
  cases e
  exact ⟨h.ints.2.1, h3, h1, h2⟩

theorem OwnI.cellAt {g c : Nat} (h : OwnI w lo hi (.slice (some ⟨g, 0, none⟩) n c) xs) (j : Nat) (hj : j < n) : w.cell? ⟨g, j, none⟩ = some (.int .i64 (ix xs j)) := by
  obtain ⟨rfl, _⟩ := h.num
  have := World.ownsRow.cellAt h.1 j (by omega)
  rw [this]
  simp [hj, ix_lt hj]

theorem OwnI.frozenAt {g c : Nat} (h : OwnI w lo hi (.slice (some ⟨g, 0, none⟩) n c) xs) (j : Nat) : w.frozen? ⟨g, j, none⟩ = false := by
  obtain ⟨rfl, _⟩ := h.num
  exact World.ownsRow.frozenAt h.1 j

theorem OwnI.alloc (h : OwnI w lo hi v xs) (o : Obj) : OwnI (w.alloc o) lo hi v xs := ⟨World.ownsRow.alloc h.1 o, h.2⟩

theorem OwnI.block_ge (h : OwnI w lo hi v xs) : ∀ k, v.ownBlock = some k → lo ≤ k ∧ k < hi := fun k hk => ⟨(World.ownsRow.lt h.1 k hk).1, h.2 k hk⟩

/-- where it lies, if it has an element -/
theorem OwnI.head {c : Nat} (h : OwnI w lo hi (.slice A n c) xs) (hn : 0 < n) : ∃ g, A = some ⟨g, 0, none⟩ ∧ lo ≤ g ∧ g < hi := by
  obtain ⟨b, o, e, _⟩ := h.at_.at_ hn
  obtain ⟨g, e2, h1, h2, _⟩ := h.ints.2.2.2 _ e
  exact ⟨g, by rw [e, e2], h1, h2⟩
end

section
variable {ops : Array Oper} {rest : List Oper} {o : Oper} {a : Act} {Q : Exit → Act → World → Prop}

/-- 'make([]int, n)' -/
theorem wpList_make_ints (w : World) (hg : o.guard = none) (l c : Operand) (hop : o.op = Op.makeSlice 27 l c) (n : Nat)
    (hl : a.eval l = .int .i64 (n : Int)) (hc : a.eval c = .int .i64 (n : Int)) (hn : n ≤ 1099511627776)
    (hK : ∀ w', OwnI w' w.heap.size (w.heap.size + 1) (.slice (some ⟨w.heap.size, 0, none⟩) n n) (List.replicate n 0) → Below w.heap.size w w' → w'.heap.size = w.heap.size + 1 → wpList Tryz.prog ops Q rest (a.put o.dst (.slice (some ⟨w.heap.size, 0, none⟩) n n)) w') :
    wpList Tryz.prog ops Q (o :: rest) a w := by
  obtain ⟨i0, hi, hz0, hz1, hz2⟩ := info_parts infoI
  refine wpList_plain hg fun K hK' => ?_
  have hrun := run_make (P := Tryz.prog) w 27 3 i0 (.int .i64 0) Tryz.underlying27 hi hz0 .i64 .i64 n n (by omega) (by omega) (by rw [hz2]; omega) (by omega)
  simp only [Int.toNat_natCast, hz1, Nat.mul_one] at hrun
  unfold Oper.wp
  simp [execOp, hop, hl, hc, hrun, Result.andThen]
  refine hK' _ _ (hK _ ⟨?_, fun k e => by simp [Value.ownBlock] at e; omega⟩ ((Below.refl _ _).alloc (Nat.le_refl _) _) (by simp))
  have h1 := World.ownsRow_lit (e := 3) (size := 1) (base := w.heap.size) w (madeCells #[Value.int .i64 0] n) n (Nat.le_refl _) (by unfold maxLen; omega) (by simp [size_madeCells])
  rw [toList_madeCells_one] at h1
  simpa [Value.cells] using h1

/-- 'out = append(out, x)' where out is nil or the call's own -/
theorem wpList_append_int (w : World) (hg : o.guard = none) (s x : Operand) (hop : o.op = Op.call { callee := Callee.builtin Builtin.append, args := #[s, x], argTypes := #[27, 27] })
    (lo hi n c : Nat) (A : Option Addr) (xs : List Int) (hs : a.eval s = .slice A n c) (hown : OwnI w lo hi (.slice A n c) xs)
    (y : Int) (b cc : Nat) (hx : a.eval x = .slice (some ⟨b, 0, none⟩) 1 cc) (hcell : w.cell? ⟨b, 0, none⟩ = some (.int .i64 y)) (hn : n ≤ 1099511627776) (hbase : lo ≤ w.heap.size) (hhi : hi ≤ w.heap.size + 1)
    (hK : ∀ A' c' w', OwnI w' lo w'.heap.size (.slice A' (n + 1) c') (xs ++ [y]) → Only lo hi w w' → wpList Tryz.prog ops Q rest (a.put o.dst (.slice A' (n + 1) c')) w') :
    wpList Tryz.prog ops Q (o :: rest) a w := by
  obtain ⟨i0, hi0, hz0, hz1, hz2⟩ := info_parts infoI
  obtain rfl := hown.ints.2.1
  refine wpList_append_own_at w hg s x 27 hop lo 3 i0 (.int .i64 0) 1 8 Tryz.underlying27 hi0 hz0 hz1 hz2 rfl (by decide) _ xs.length _ hs hown.1 ⟨b, 0, none⟩ 1 cc [.int .i64 y] hx rfl ?_ ?_ (by unfold maxLen; omega) (by omega) hbase ?_
  · intro j u hj
    match j, hj with
    | 0, hj => simp at hj; subst hj; simpa [Addr.add] using hcell
  · intro u hu; simp at hu; subst hu; rfl
  · intro v' w' hown' hgrow _ hat
    have h2 : OwnI w' lo w'.heap.size v' (xs ++ [y]) := by
      refine ⟨?_, fun k e => ?_⟩
      · rw [List.map_append, List.length_append]
        exact hown'
      · exact (World.ownsRow.lt hown' k e).2
    obtain ⟨A', c', e, _⟩ := h2.len
    rw [List.length_append] at e
    subst e
    exact hK A' c' w' h2 (Only.of_grown hgrow (fun k e => hown.block_ge k e))

theorem wp_append_int {K : Act → World → Prop} (w : World) (s x : Operand) (hop : o.op = Op.call { callee := Callee.builtin Builtin.append, args := #[s, x], argTypes := #[27, 27] })
    (lo hi n c : Nat) (A : Option Addr) (xs : List Int) (hs : a.eval s = .slice A n c) (hown : OwnI w lo hi (.slice A n c) xs)
    (y : Int) (b cc : Nat) (hx : a.eval x = .slice (some ⟨b, 0, none⟩) 1 cc) (hcell : w.cell? ⟨b, 0, none⟩ = some (.int .i64 y)) (hn : n ≤ 1099511627776) (hbase : lo ≤ w.heap.size)
    (hK : ∀ A' c' w', OwnI w' lo w'.heap.size (.slice A' (n + 1) c') (xs ++ [y]) → Only lo hi w w' → ((Value.slice A' (n + 1) c').ownBlock = (Value.slice A n c).ownBlock ∨ (Value.slice A' (n + 1) c').ownBlock = some w.heap.size) → K (a.put o.dst (.slice A' (n + 1) c')) w') :
    Oper.wp Tryz.prog o a w K Q := by
  obtain ⟨i0, hi0, hz0, hz1, hz2⟩ := info_parts infoI
  obtain rfl := hown.ints.2.1
  obtain ⟨v', w', hr, hown', hgrow, _, hat⟩ := run_append_own_at (P := Tryz.prog) w lo 27 o.type 3 i0 (.int .i64 0) 1 8 Tryz.underlying27 hi0 hz0 hz1 hz2 rfl (by decide) _ xs.length _ hown.1 ⟨b, 0, none⟩ 1 cc [.int .i64 y] rfl
    (fun j u hj => by
      match j, hj with
      | 0, hj => simp at hj; subst hj; simpa [Addr.add] using hcell) (fun u hu => by simp at hu; subst hu; rfl) (by unfold maxLen; omega) (by omega) hbase
  have h2 : OwnI w' lo w'.heap.size v' (xs ++ [y]) := by
    refine ⟨?_, fun k e => (World.ownsRow.lt hown' k e).2⟩
    rw [List.map_append, List.length_append]
    exact hown'
  obtain ⟨A', c', e, _⟩ := h2.len
  rw [List.length_append] at e
  subst e
  unfold Oper.wp execOp
  simp only [hop, resolve, invoke, builtin, Sem.run_bind, Sem.run_pure, Result.andThen_ok, List.map_toArray, List.map_cons, List.map_nil, hs, hx, hr]
  exact hK A' c' w' h2 (Only.of_grown hgrow (fun k e => hown.block_ge k e)) hat

theorem step_append_int {K : Act → World → Prop} {E : Prop} (w : World) (hgd : o.guard = none) (s x : Operand) (hop : o.op = Op.call { callee := Callee.builtin Builtin.append, args := #[s, x], argTypes := #[27, 27] })
    (lo hi n c : Nat) (A : Option Addr) (xs : List Int) (hs : a.eval s = .slice A n c) (hown : OwnI w lo hi (.slice A n c) xs)
    (y : Int) (b cc : Nat) (hx : a.eval x = .slice (some ⟨b, 0, none⟩) 1 cc) (hcell : w.cell? ⟨b, 0, none⟩ = some (.int .i64 y)) (hn : n ≤ 1099511627776) (hbase : lo ≤ w.heap.size)
    (hK : ∀ A' c' w', OwnI w' lo w'.heap.size (.slice A' (n + 1) c') (xs ++ [y]) → Only lo hi w w' → ((Value.slice A' (n + 1) c').ownBlock = (Value.slice A n c).ownBlock ∨ (Value.slice A' (n + 1) c').ownBlock = some w.heap.size) → K (a.put o.dst (.slice A' (n + 1) c')) w') :
    if Region.wanted o (yielded ops a.tmps) = true then Oper.wp Tryz.prog o a w K Q else E := by
  have hw : Region.wanted o (yielded ops a.tmps) = true := by simp [Region.wanted, hgd]
  rw [if_pos hw]
  exact wp_append_int w s x hop lo hi n c A xs hs hown y b cc hx hcell hn hbase hK

/-- the same, telling where the new slice lies: where the old one lay, or in a new block -/
theorem wpList_append_int2 (w : World) (hg : o.guard = none) (s x : Operand) (hop : o.op = Op.call { callee := Callee.builtin Builtin.append, args := #[s, x], argTypes := #[27, 27] })
    (lo hi n c : Nat) (A : Option Addr) (xs : List Int) (hs : a.eval s = .slice A n c) (hown : OwnI w lo hi (.slice A n c) xs)
    (y : Int) (b cc : Nat) (hx : a.eval x = .slice (some ⟨b, 0, none⟩) 1 cc) (hcell : w.cell? ⟨b, 0, none⟩ = some (.int .i64 y)) (hn : n ≤ 1099511627776) (hbase : lo ≤ w.heap.size) (hhi : hi ≤ w.heap.size + 1)
    (hK : ∀ A' c' w' l2 h2, OwnI w' l2 h2 (.slice A' (n + 1) c') (xs ++ [y]) → Only lo hi w w' → w.heap.size ≤ w'.heap.size → ((l2 = lo ∧ h2 = hi) ∨ (l2 = w.heap.size ∧ h2 = w'.heap.size)) → wpList Tryz.prog ops Q rest (a.put o.dst (.slice A' (n + 1) c')) w') :
    wpList Tryz.prog ops Q (o :: rest) a w := by
  obtain ⟨i0, hi0, hz0, hz1, hz2⟩ := info_parts infoI
  obtain rfl := hown.ints.2.1
  refine wpList_append_own_at w hg s x 27 hop lo 3 i0 (.int .i64 0) 1 8 Tryz.underlying27 hi0 hz0 hz1 hz2 rfl (by decide) _ xs.length _ hs hown.1 ⟨b, 0, none⟩ 1 cc [.int .i64 y] hx rfl ?_ ?_ (by unfold maxLen; omega) (by omega) hbase ?_
  · intro j u hj
    match j, hj with
    | 0, hj => simp at hj; subst hj; simpa [Addr.add] using hcell
  · intro u hu; simp at hu; subst hu; rfl
  · intro v' w' hown' hgrow _ hat
    have h2 : OwnI w' lo w'.heap.size v' (xs ++ [y]) := by
      refine ⟨?_, fun k e => (World.ownsRow.lt hown' k e).2⟩
      rw [List.map_append, List.length_append]
      exact hown'
    obtain ⟨A', c', e, _⟩ := h2.len
    rw [List.length_append] at e
    subst e
    have hon : Only lo hi w w' := Only.of_grown hgrow (fun k e => hown.block_ge k e)
    rcases hat with hat | hat
    · exact hK A' c' w' lo hi ⟨h2.1, fun k e => hown.2 k (hat ▸ e)⟩ hon hon.size (.inl ⟨rfl, rfl⟩)
    · refine hK A' c' w' w.heap.size w'.heap.size ⟨⟨h2.1.1, ?_⟩, h2.2⟩ hon hon.size (.inr ⟨rfl, rfl⟩)
      rcases h2.1.2 with h0 | ⟨g, cap, cur, hv, hgb, r⟩
      · exact .inl h0
      · refine .inr ⟨g, cap, cur, hv, ?_, r⟩
        rw [hv] at hat
        simp [Value.ownBlock] at hat
        omega

theorem run_append_of_nil {P : Program} (w : World) (base : Nat) (t ty e : TypeId) (i : TypeInfo) (size : Nat) (ht : P.underlying t = some (.slice e)) (hi : P.info? e = some i)
    (v : Value) (n : Nat) (xs : List Value) (hown : w.ownsRow base e size v n xs) (c : Nat) : (Builtin.append_ #[t, t] ty #[v, .slice none 0 c]).run P w = .ok v w := by
  rcases hown.2 with ⟨rfl, rfl⟩ | ⟨g, cap, cur, rfl, _, _, hnc, _⟩
  · simp [Builtin.append_, run_underlying ht, sizeOf, typeInfo, hi, Builtin.lenOf, Builtin.firstCells]
  · simp [Builtin.append_, run_underlying ht, sizeOf, typeInfo, hi, Builtin.lenOf, Builtin.firstCells, hnc, storeCells]

/-- 'out = append(out, ys...)', out nil or the call's own, ys whatever -/
theorem wpList_append_ints (w : World) (hg : o.guard = none) (s x : Operand) (hop : o.op = Op.call { callee := Callee.builtin Builtin.append, args := #[s, x], argTypes := #[27, 27] })
    (lo hi n c : Nat) (A : Option Addr) (xs : List Int) (hs : a.eval s = .slice A n c) (hown : OwnI w lo hi (.slice A n c) xs)
    (B : Option Addr) (m cc : Nat) (ys : List Int) (hx : a.eval x = .slice B m cc) (hy : IntsAt w B m ys) (hn : n + m ≤ 1099511627776) (hbase : lo ≤ w.heap.size) (hhi : hi ≤ w.heap.size)
    (hK : ∀ A' c' w', OwnI w' lo w'.heap.size (.slice A' (n + m) c') (xs ++ ys) → Only lo hi w w' → wpList Tryz.prog ops Q rest (a.put o.dst (.slice A' (n + m) c')) w') :
    wpList Tryz.prog ops Q (o :: rest) a w := by
  obtain ⟨i0, hi0, hz0, hz1, hz2⟩ := info_parts infoI
  obtain rfl := hown.ints.2.1
  obtain rfl := hy.len
  cases B with
  | none =>
    have hy0 : ys = [] := by
      rcases Nat.eq_zero_or_pos ys.length with h0 | h0
      · exact List.eq_nil_of_length_eq_zero h0
      · obtain ⟨b, o', e, _⟩ := hy.2 h0
        cases e
    subst hy0
    refine wpList_plain hg fun K hK' => ?_
    have hrun := run_append_of_nil (P := Tryz.prog) w lo 27 o.type 3 i0 1 Tryz.underlying27 hi0 _ xs.length _ hown.1 cc
    unfold Oper.wp
    simp [execOp, hop, resolve, invoke, builtin, hs, hx, hrun, Result.andThen]
    refine hK' _ _ ?_
    have h2 := hK A c w (by simpa using hown.mono (Nat.le_refl _) hhi) (Only.refl _ _ _)
    simpa using h2
  | some ad =>
    refine wpList_append_own_at w hg s x 27 hop lo 3 i0 (.int .i64 0) 1 8 Tryz.underlying27 hi0 hz0 hz1 hz2 rfl (by decide) _ xs.length _ hs hown.1 ad ys.length cc (ys.map (Value.int .i64)) hx (by simp) ?_ ?_ (by unfold maxLen; omega) (by omega) hbase ?_
    · intro j u hj
      have hjl : j < ys.length := by
        have := (List.getElem?_eq_some_iff.1 hj).1
        simpa using this
      obtain ⟨b, o', e, hc⟩ := hy.2 (by omega)
      cases e
      rw [Addr.add_lit, hc j hjl, ix_lt hjl]
      simp [hjl] at hj
      rw [hj]
    · exact ints_oneCell _ _
    · intro v' w' hown' hgrow _ hat
      have h2 : OwnI w' lo w'.heap.size v' (xs ++ ys) := by
        refine ⟨?_, fun k e => (World.ownsRow.lt hown' k e).2⟩
        rw [List.map_append, List.length_append]
        exact hown'
      obtain ⟨A', c', e, _⟩ := h2.len
      rw [List.length_append] at e
      subst e
      exact hK A' c' w' h2 (Only.of_grown hgrow (fun k e => hown.block_ge k e))
end
end Go.Proofs.YtaanppihgldeaaaGreatDoor
namespace Go.Proofs.YtaanppihgldeaaaGreatDoor
set_option linter.unusedSimpArgs false
set_option linter.unusedVariables false
set_option linter.unusedVariables false
open Go.ChangeShapes Go.WideShapes Go.ChangeAt Go.RowKit Go.Deep

theorem own : ownKnob Tryz.prog.godebug = none := by kernel_rfl
theorem laidOut : laidOutB Tryz.prog = true := by kernel_rfl
theorem cellsInt : Tryz.prog.cellsOf 3 = 1 := by kernel_rfl
theorem cellsInts : Tryz.prog.cellsOf 27 = 1 := by kernel_rfl

theorem ints_open {H : Type} {enc : TypeId × Value → H} {W : World} {a : Option Addr} {len cap : Nat} {d : DataW H} {p : List MemPlace}
    (h : DataW.Trod enc Tryz.prog W 0 (fun _ => true) true 27 (.slice a len cap) d p) : ∃ xs, IntsAt W a len xs ∧ (∀ x ∈ xs, (Lit.int .i64 x).wf = true) ∧ len ≤ cap ∧ cap ≤ maxLen := by
  obtain ⟨fuel, hf⟩ := h
  rcases open_ints Tryz.underlying27 Tryz.underlying3 cellsInt hf with ⟨hcs, _⟩ | ⟨x, l, c, zs, hcs, _, hl, hm, hz, _, hcell, hwz⟩
  · simp [Value.cells] at hcs
    obtain ⟨rfl, rfl, rfl⟩ := hcs
    exact ⟨[], IntsAt.nil _ _, by simp, Nat.le_refl _, by unfold maxLen; omega⟩
  · simp [Value.cells] at hcs
    obtain ⟨rfl, rfl, rfl⟩ := hcs
    simp only [if_true] at hz
    refine ⟨zs.take len, ⟨by simp; omega, fun hn => ?_⟩, fun x hx => hwz x (List.mem_of_mem_take hx), hl, hm⟩
    obtain ⟨b, off, rfl, hc⟩ := ints_at hcell (by omega)
    refine ⟨b, off, rfl, fun j hj => ?_⟩
    rw [hc j (by omega)]
    simp [ix, List.getD, hj]
theorem rows_open {H : Type} {enc : TypeId × Value → H} {W : World} {a : Option Addr} {len cap : Nat} {d : DataW H} {p : List MemPlace}
    (h : DataW.Trod enc Tryz.prog W 0 (fun _ => true) true 98 (.slice a len cap) d p) : ∃ xss, RowsAt W a len xss ∧ (∀ xs ∈ xss, xs.length ≤ 9223372036854775807 ∧ ∀ x ∈ xs, (Lit.int .i64 x).wf = true) ∧ len ≤ cap ∧ cap ≤ maxLen := by
  obtain ⟨fuel, hf⟩ := h
  rcases open_int_rows Tryz.underlying98 Tryz.underlying27 Tryz.underlying3 cellsInts cellsInt hf with ⟨hcs, _⟩ | ⟨x, l, c, A, L, C, Z, hcs, _, hl, hm, _, hcell⟩
  · simp [Value.cells] at hcs
    obtain ⟨rfl, rfl, rfl⟩ := hcs
    exact ⟨[], ⟨rfl, fun h => absurd h (by omega)⟩, by simp, Nat.le_refl _, by unfold maxLen; omega⟩
  · simp [Value.cells] at hcs
    obtain ⟨rfl, rfl, rfl⟩ := hcs
    refine ⟨(List.range len).map fun r => (Z r).take (L r), ⟨by simp, fun hn => ?_⟩, fun xs hxs => ?_, hl, hm⟩
    · obtain ⟨b, off, spot⟩ := x
      have hspot : spot = none := by
        have := (hcell 0 (by omega)).1
        simpa [Addr.add] using World.cell?_spot this
      subst hspot
      refine ⟨b, off, rfl, fun j hj => ⟨A j, L j, C j, ?_, (hcell j (by omega)).2.1, ?_⟩⟩
      · have := (hcell j (by omega)).1
        rwa [Go.WideShapes.add_plain] at this
      · obtain ⟨_, h1, h2, h3, h4, h5, h6⟩ := hcell j (by omega)
        have e : ((List.range len).map fun r => (Z r).take (L r)).getD j [] = (Z j).take (L j) := by simp [List.getD, hj]
        rw [e]
        refine ⟨by simp; omega, fun hn => ?_⟩
        obtain ⟨a', ha'⟩ : ∃ a', A j = some a' := by
          cases hA : A j with
          | none => have := h5 hA; omega
          | some a' => exact ⟨a', rfl⟩
        have hc := (h6 a' ha').2
        obtain ⟨b', off', rfl, hc'⟩ := ints_at (zs := Z j) (fun i hi => hc i (by omega)) (by omega)
        refine ⟨b', off', ha', fun i hi => ?_⟩
        rw [hc' i (by omega)]
        simp [ix, List.getD, hi]
    · obtain ⟨r, hr, rfl⟩ := List.mem_map.1 hxs
      have hr' : r < len := by simpa using hr
      have hr2 := hcell r (by omega)
      refine ⟨?_, fun x hx => hr2.2.2.2.2.1 x (List.mem_of_mem_take hx)⟩
      have h3 := hr2.2.2.1
      unfold maxLen at h3
      simp
      omega
theorem ints_open_one {H : Type} {enc : TypeId × Value → H} {W : World} {v : Value} {n : Nat} {y : DataW H × List MemPlace}
    (h : DataW.trod enc Tryz.prog W 0 (fun _ => true) true n 27 [v] = some y) : ∃ a len cap xs, v = .slice a len cap ∧ IntsAt W a len xs ∧ (∀ x ∈ xs, (Lit.int .i64 x).wf = true) ∧ len ≤ cap ∧ cap ≤ maxLen := by
  have hv : ∃ a l c, v = .slice a l c := by
    rcases open_ints Tryz.underlying27 Tryz.underlying3 cellsInt h with ⟨hcs, _⟩ | ⟨x, l, c, zs, hcs, _⟩
    · simp at hcs; exact ⟨_, _, _, hcs⟩
    · simp at hcs; exact ⟨_, _, _, hcs⟩
  obtain ⟨a, l, c, rfl⟩ := hv
  obtain ⟨xs, r⟩ := ints_open (d := y.1) (p := y.2) ⟨n, h⟩
  exact ⟨a, l, c, xs, rfl, r⟩
theorem rows_open_one {H : Type} {enc : TypeId × Value → H} {W : World} {v : Value} {n : Nat} {y : DataW H × List MemPlace}
    (h : DataW.trod enc Tryz.prog W 0 (fun _ => true) true n 98 [v] = some y) :
    ∃ a len cap xss, v = .slice a len cap ∧ RowsAt W a len xss ∧ (∀ xs ∈ xss, xs.length ≤ 9223372036854775807 ∧ ∀ x ∈ xs, (Lit.int .i64 x).wf = true) ∧ len ≤ cap ∧ cap ≤ maxLen := by
  have hv : ∃ a l c, v = .slice a l c := by
    rcases open_int_rows Tryz.underlying98 Tryz.underlying27 Tryz.underlying3 cellsInts cellsInt h with ⟨hcs, _⟩ | ⟨x, l, c, A, L, C, Z, hcs, _⟩
    · simp at hcs; exact ⟨_, _, _, hcs⟩
    · simp at hcs; exact ⟨_, _, _, hcs⟩
  obtain ⟨a, l, c, rfl⟩ := hv
  obtain ⟨xss, r⟩ := rows_open (d := y.1) (p := y.2) ⟨n, h⟩
  exact ⟨a, l, c, xss, rfl, r⟩
end Go.Proofs.YtaanppihgldeaaaGreatDoor
