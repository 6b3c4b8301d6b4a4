/- A range over a function that keeps state in cells of its own: the iterator turns its own blocks T alone, the rounds leave them. No program is walked here. The numerals: plain lists. No program is walked here. The reference writes and reads a number. -/
import Derived.RangeFuncNested
import Derived.RangeFuncBound
import Derived.RangeFuncCalls
import Derived.RangeFuncLeaves
import Derived.Test.YtaanppihgldeaaaGreatDoorW01
import Derived.Test.YtaanppihgldeaaaGreatDoorW02
import Derived.Lib.ItoaNum
import Derived.Lib.AtoiAllCases
import Derived.Deep.Cut
import Derived.Test.YtaanppihgldeaaaGreatDoorW04
namespace Go.Proofs.YtaanppihgldeaaaGreatDoor
set_option linter.unusedSimpArgs false
set_option linter.unusedVariables false
set_option linter.unusedVariables false
open Go.RowKit

/-- only the blocks of T may have turned -/
structure Turn (T : Nat → Prop) (A B : World) : Prop where
  os : B.os = A.os
  tape : B.tape = A.tape
  output : B.output = A.output
  size : A.heap.size ≤ B.heap.size
  block : ∀ k, k < A.heap.size → ¬ T k → B.heap[k]? = A.heap[k]?
theorem Turn.refl (T : Nat → Prop) (A : World) : Turn T A A := ⟨rfl, rfl, rfl, Nat.le_refl _, fun _ _ _ => rfl⟩
theorem Turn.trans {T : Nat → Prop} {A B C : World} (h : Turn T A B) (k : Turn T B C) : Turn T A C :=
  ⟨k.os.trans h.os, k.tape.trans h.tape, k.output.trans h.output, Nat.le_trans h.size k.size, fun i h1 h2 => (k.block i (Nat.lt_of_lt_of_le h1 h.size) h2).trans (h.block i h1 h2)⟩
theorem Turn.mono {T T' : Nat → Prop} {A B : World} (h : Turn T A B) (hT : ∀ k, T k → T' k) : Turn T' A B := ⟨h.os, h.tape, h.output, h.size, fun k h1 h2 => h.block k h1 fun h3 => h2 (hT k h3)⟩
theorem Turn.of_below {T : Nat → Prop} {A B : World} (h : Below A.heap.size A B) : Turn T A B := ⟨h.os, h.tape, h.output, h.size, fun k h1 _ => h.block k h1⟩
theorem Turn.putObj {T : Nat → Prop} (A : World) (l : Nat) (o : Obj) (h : T l) : Turn T A (A.putObj l o) := by
  have g := grownBy_putObj' A l o
  exact ⟨g.os, g.tape, g.output, g.size, fun k h1 h2 => g.block k h1 fun e => by cases e; exact h2 h⟩
theorem Turn.setCell {T : Nat → Prop} (A : World) (g j : Nat) (u : Value) (h : T g) : Turn T A (A.setCell ⟨g, j, none⟩ u) :=
  ⟨rfl, rfl, rfl, by simp [World.setCell], fun k _ h2 => Below.heap_setCell _ _ _ _ fun e => h2 (by subst e; exact h)⟩
theorem Turn.cell {T : Nat → Prop} {A B : World} {p : Addr} {u : Value} (h : Turn T A B) (hc : A.cell? p = some u) (hp : ¬ T p.block) : B.cell? p = some u := (World.cell?_of_block (h.block _ (World.block_lt_of_cell? A _ hc) hp)).trans hc
theorem Turn.frozen {T : Nat → Prop} {A B : World} {p : Addr} {u : Value} (h : Turn T A B) (hc : A.cell? p = some u) (hf : A.frozen? p = false) (hp : ¬ T p.block) : B.frozen? p = false := (World.frozen?_of_block (h.block _ (World.block_lt_of_cell? A _ hc) hp)).trans hf
/-- the loop's two blocks lie as they lay -/
def TwoKept (D : Nat) (W W' : World) : Prop := W.heap.size ≤ W'.heap.size ∧ W'.heap[D]? = W.heap[D]? ∧ W'.heap[D + 1]? = W.heap[D + 1]?
/-- how a round's body may be left -/
def postT {α : Type} (T : Nat → Prop) (D : Nat) (I : List α → World → Prop) (Ix : Code → List α → World → Prop) (xs : List α) (W : World) : Exit → Act → World → Prop
  | .normal, _, W' => Turn (fun k => ¬ T k ∧ k ≠ D ∧ k ≠ D + 1) W W' ∧ I xs W'
  | .ret, _, W' => TwoKept D W W' ∧ Ix .ret xs W'
  | .exit id, _, W' => TwoKept D W W' ∧ Ix (.exit id) xs W'
  | .goto t, _, W' => TwoKept D W W' ∧ Ix (.goto t) xs W'
  | .panic _, _, _ => False
  | .outgrown, _, _ => False
/-- the iterator's contract -/
def SeqT {α : Type} (T : Nat → Prop) (P : Program) (g : Nat) (lb : Array Value) (encs : α → Array Value) (Y : List α → α → Prop) (S Sp : List α → Prop) (w : World) : Prop :=
  ∀ (l : Nat) (J Jx : List α → World → Prop) (W : World), Below w.heap.size w W →
    (∀ pre A B, J pre A → Turn T A B → J pre B) → (∀ pre A B, Jx pre A → Turn T A B → Jx pre B) →
    (∀ (m : Nat) pre x W1, J pre W1 → Y pre x → YieldAt Fence.wide m P l (encs x) W1 fun e W' =>
      (e = .returned (.bool true) ∧ J (pre ++ [x]) W' ∧ Turn (fun k => ¬ T k) W1 W') ∨ (e = .returned (.bool false) ∧ Jx (pre ++ [x]) W')) →
    J [] W →
    Calls P g (#[.func (.yield l) #[] #[]] ++ lb) W fun e W' => (∃ v, e = .returned v) ∧ ((∃ xs, S xs ∧ J xs W') ∨ (∃ pre, Sp pre ∧ Jx pre W'))
theorem wp_rangeT {P : Program} {α : Type} {g : Operand} {ps : Array Tmp} {assign body : Code} {Q : Exit → Act → World → Prop} {a : Act} {w : World} {n : Nat}
    {gf : Nat} {lb : Array Value} (hg : a.eval g = .func (.func gf) #[] lb) (eg : ∀ args w, (callFunc gf args).run P w = .ok (.enter gf args) w)
    {encs : α → Array Value} {Y : List α → α → Prop} {S Sp : List α → Prop} (T : Nat → Prop) (hT : ∀ k, T k → k < w.heap.size) (hseq : SeqT T P gf lb encs Y S Sp w)
    (hps : ∀ x, (encs x).size = ps.size)
    (I : List α → World → Prop) (Ix : Code → List α → World → Prop) (hI : ∀ pre A B, I pre A → w.heap.size ≤ A.heap.size → Turn (fun k => T k ∨ k = w.heap.size + 1) A B → I pre B) (hIx : ∀ (cd : Code) (pre : List α) (A B : World), Ix cd pre A → Turn (fun k => T k ∨ k = w.heap.size + 1) A B → Ix cd pre B) (h0 : I [] w) (upd : α → Array Value → Array Value)
    (hassign : ∀ (l : Nat) (x : α) (W : World) (K : Act → World → Prop), K { tmps := upd x a.tmps, defers := [] } W →
      assign.wpIn (Fence.wide.inRound l) n P (Exit.then K (fun _ _ _ => False)) { tmps := (ps.zip (encs x)).foldl (fun t (p, v) => t.setIfInBounds p v) a.tmps, defers := [] } W)
    (hbody : ∀ (l : Nat) (pre : List α) (x : α) (W : World), w.heap.size + 1 < W.heap.size → I pre W → Y pre x → body.wpIn (Fence.wide.inRound l) n P (postT T w.heap.size I Ix (pre ++ [x]) W) { tmps := upd x a.tmps, defers := [] } W)
    (hdone : ∀ (D : Nat) (xs : List α) (W : World), D = w.heap.size → S xs → I xs W → W.heap[D]? = some (.deferred (some [])) → Q .normal { a with defers := { target := .collected D, args := #[] } :: a.defers } W)
    (hstop : ∀ (D : Nat) (c : Code) (pre : List α) (W : World), D = w.heap.size → Sp pre → Ix c pre W → W.heap[D]? = some (.deferred (some [])) → c.wpIn Fence.wide (n + 1) P Q { a with defers := { target := .collected D, args := #[] } :: a.defers } W) :
    (Code.rangeFunc g ps assign body).wpIn Fence.wide (n + 1) P Q a w := by
  refine wpIn_rangeFunc ?_
  intro fn hfn
  obtain ⟨rec, hrec⟩ : ∃ rec : LoopState → Option Code → Loop, rec = fun st pe => { state := st, pending := pe, fn, tmps := a.tmps, params := ps, assign, body, defers := w.heap.size } := ⟨_, rfl⟩
  obtain ⟨W1, hW1⟩ : ∃ W1, (w.alloc (.deferred (some []))).alloc (.loop (rec .ready none)) = W1 := ⟨_, rfl⟩
  have hL1 : W1.heap[w.heap.size + 1]? = some (.loop (rec .ready none)) := by
    have h := World.alloc_heap_new (w.alloc (.deferred (some []))) (.loop (rec .ready none))
    rw [World.size_alloc, hW1] at h
    exact h
  have hbW : Below w.heap.size w W1 := by
    rw [← hW1]
    exact ((Below.refl _ w).alloc (Nat.le_refl _) _).alloc (by simp) _
  have hsW : W1.heap.size = w.heap.size + 2 := by rw [← hW1]; simp
  have hK1 : W1.heap[w.heap.size]? = some (.deferred (some [])) := by
    rw [← hW1]
    exact (Below.heap_alloc _ _ _ (by simp)).trans (World.alloc_heap_new w _)
  have hI1 : I [] W1 := hI _ _ _ h0 (Nat.le_refl _) (Turn.of_below hbW)
  have nT : ∀ k, w.heap.size ≤ k → ¬ T k := fun k hk h => by have := hT k h; omega
  refine ⟨w.heap.size + 1, [{ target := .collected w.heap.size, args := #[] }], W1, { target := .fn (.func gf) lb, args := #[.func (.yield (w.heap.size + 1)) #[] #[]] }, W1, gf,
    #[.func (.yield (w.heap.size + 1)) #[] #[]] ++ lb, W1, ?_, ?_, ?_, ?_, (fun _ => by omega), ?_⟩
  · rw [← hW1, hrec]; exact run_enterLoop_outer _ _ _ _ _
  · simp only [resolve, hg]
    simp [go_sem]
  · intro f' _; exact trivial
  · simp [invoke, go_sem, eg]
  refine callsIn_wide.2 ((hseq (w.heap.size + 1)
      (fun pre W => I pre W ∧ W.heap[w.heap.size + 1]? = some (.loop (rec .ready none)) ∧ W.heap[w.heap.size]? = some (.deferred (some [])))
      (fun pre W => ∃ c, Ix c pre W ∧ W.heap[w.heap.size + 1]? = some (.loop (rec .done (some c))) ∧ W.heap[w.heap.size]? = some (.deferred (some [])))
      W1 hbW ?_ ?_ ?_ ⟨hI1, hL1, hK1⟩).mono ?_)
  · rintro pre A B ⟨hi, hl, hk⟩ hb
    have h1 := (Array.getElem?_eq_some_iff.1 hl).1
    exact ⟨hI _ _ _ hi (by omega) (hb.mono fun k h => .inl h), (hb.block _ h1 (nT _ (by omega))).trans hl, (hb.block _ (by omega) (nT _ (by omega))).trans hk⟩
  · rintro pre A B ⟨cd, hi, hl, hk⟩ hb
    have h1 := (Array.getElem?_eq_some_iff.1 hl).1
    exact ⟨cd, hIx cd _ _ _ hi (hb.mono fun k h => .inl h), (hb.block _ h1 (nT _ (by omega))).trans hl, (hb.block _ (by omega) (nT _ (by omega))).trans hk⟩
  · rintro m pre x W ⟨hi, hl, hk⟩ hyx
    have hlt : w.heap.size + 1 < W.heap.size := (Array.getElem?_eq_some_iff.1 hl).1
    have hy := run_yield (P := P) (args := encs x) hl (by rw [hrec]; exact hps x)
    rw [hrec] at hy
    refine ⟨fn, _, assign, body, hy, ?_⟩
    have hround : RoundIn Fence.wide n P (w.heap.size + 1) fn ((ps.zip (encs x)).foldl (fun t (p, v) => t.setIfInBounds p v) a.tmps) assign body W (fun e W' =>
        (e = .returned (.bool true) ∧ (I (pre ++ [x]) W' ∧ W'.heap[w.heap.size + 1]? = some (.loop (rec .ready none)) ∧ W'.heap[w.heap.size]? = some (.deferred (some []))) ∧ Turn (fun k => ¬ T k) W W') ∨
        (e = .returned (.bool false) ∧ ∃ c, Ix c (pre ++ [x]) W' ∧ W'.heap[w.heap.size + 1]? = some (.loop (rec .done (some c))) ∧ W'.heap[w.heap.size]? = some (.deferred (some [])))) := by
      refine roundIn_of_wpIn hfn (hassign _ x W _ ⟨_, run_beginRound hl (by rw [hrec]), ?_⟩)
      have hl2 : (W.putObj (w.heap.size + 1) (.loop { rec .ready none with state := .busy })).heap[w.heap.size + 1]? = some (.loop { rec .ready none with state := .busy }) := World.putObj_heap_same hlt
      have hk2 : (W.putObj (w.heap.size + 1) (.loop { rec .ready none with state := .busy })).heap[w.heap.size]? = some (.deferred (some [])) := (World.putObj_heap_other (by omega)).trans hk
      have hI2 := hI _ _ _ hi (by omega) (Turn.putObj W (w.heap.size + 1) (.loop { rec .ready none with state := .busy }) (.inr rfl))
      refine wpIn_mono (hbody _ pre x _ (by simp; omega) hI2 hyx) ?_
      have fin : ∀ (jump : Option Code) (W3 : World), TwoKept w.heap.size (W.putObj (w.heap.size + 1) (.loop { rec .ready none with state := .busy })) W3 →
          (Instr.endRound (w.heap.size + 1) jump).run P W3 = .ok (.bool jump.isNone) (W3.putObj (w.heap.size + 1) (.loop (rec (if jump.isNone then .ready else .done) jump))) ∧
          W3.heap[w.heap.size + 1]? = some (.loop { rec .ready none with state := .busy }) ∧
          (W3.putObj (w.heap.size + 1) (.loop (rec (if jump.isNone then .ready else .done) jump))).heap[w.heap.size + 1]? = some (.loop (rec (if jump.isNone then .ready else .done) jump)) ∧
          (W3.putObj (w.heap.size + 1) (.loop (rec (if jump.isNone then .ready else .done) jump))).heap[w.heap.size]? = some (.deferred (some [])) := fun jump W3 hk3 => by
        have hl3 := hk3.2.2.trans hl2
        have hd3 := hk3.2.1.trans hk2
        have := run_endRound (P := P) jump hl3
        rw [hrec] at this ⊢
        exact ⟨this, by rw [hrec] at hl3; exact hl3, World.putObj_heap_same (Array.getElem?_eq_some_iff.1 hl3).1, (World.putObj_heap_other (by omega)).trans hd3⟩
      rintro e a3 W3 hp
      cases e with
      | normal =>
        obtain ⟨hk3, hi3⟩ := hp
        obtain ⟨hr, hl3, hl4, hk4⟩ := fin none W3 ⟨hk3.size, hk3.block _ (by simp; omega) (by simp), hk3.block _ (by simp; omega) (by simp)⟩
        have hs3 : W.heap.size ≤ W3.heap.size := by have := hk3.size; simpa using this
        refine ⟨_, _, hr, .inl ⟨rfl, ⟨hI _ _ _ hi3 (by omega) (Turn.putObj W3 _ _ (.inr rfl)), hl4, hk4⟩, ?_⟩⟩
        exact (((Turn.putObj W (w.heap.size + 1) _ (nT _ (by omega))).trans (hk3.mono fun k h => h.1))).trans (Turn.putObj W3 (w.heap.size + 1) _ (nT _ (by omega)))
      | ret =>
        obtain ⟨hk3, hi3⟩ := hp
        obtain ⟨hr, hl3, hl4, hk4⟩ := fin (some .ret) W3 hk3
        exact ⟨_, _, hr, .inr ⟨rfl, .ret, hIx _ _ _ _ hi3 (Turn.putObj W3 _ _ (.inr rfl)), hl4, hk4⟩⟩
      | exit id =>
        obtain ⟨hk3, hi3⟩ := hp
        obtain ⟨hr, hl3, hl4, hk4⟩ := fin (some (.exit id)) W3 hk3
        exact ⟨_, _, hr, .inr ⟨rfl, .exit id, hIx _ _ _ _ hi3 (Turn.putObj W3 _ _ (.inr rfl)), hl4, hk4⟩⟩
      | goto t =>
        obtain ⟨hk3, hi3⟩ := hp
        obtain ⟨hr, hl3, hl4, hk4⟩ := fin (some (.goto t)) W3 hk3
        exact ⟨_, _, hr, .inr ⟨rfl, .goto t, hIx _ _ _ _ hi3 (Turn.putObj W3 _ _ (.inr rfl)), hl4, hk4⟩⟩
      | panic ch => exact hp.elim
      | outgrown => exact hp.elim
    exact ⟨hround.1, fun cc cs _ => hround.2 cc cs (fun d h => by cases h)⟩
  · rintro e W2 ⟨⟨v, rfl⟩, (⟨xs, hS, hi, hl, hk⟩ | ⟨pre, hSp, cd, hi, hl, hk⟩)⟩
    · have hlt2 := (Array.getElem?_eq_some_iff.1 hl).1
      exact ⟨none, _, by have := run_endLoop (P := P) hl (by rw [hrec]; simp); rw [hrec] at this; exact this, hdone _ xs _ rfl hS (hI _ _ _ hi (by omega) (Turn.putObj W2 _ _ (.inr rfl))) ((World.putObj_heap_other (by omega)).trans hk)⟩
    · exact ⟨some cd, _, by have := run_endLoop (P := P) hl (by rw [hrec]; simp); rw [hrec] at this; exact this, hstop _ cd pre _ rfl hSp (hIx cd _ _ _ hi (Turn.putObj W2 _ _ (.inr rfl))) ((World.putObj_heap_other (by omega)).trans hk)⟩
end Go.Proofs.YtaanppihgldeaaaGreatDoor
namespace Go.Proofs.YtaanppihgldeaaaGreatDoor
set_option linter.unusedSimpArgs false
set_option linter.unusedVariables false
set_option linter.unusedVariables false
open Go.RowKit

/-- a number's digits, as byte numbers -/
def decN (n : Nat) : List Int := (Lib.decDigits n).map fun b => (b.toNat : Int)
theorem byte_back (l : List UInt8) : (l.map fun b => (b.toNat : Int)).map (fun n => UInt8.ofNat n.toNat) = l := by
  rw [List.map_map]
  conv => rhs; rw [← List.map_id l]
  exact List.map_congr_left fun x _ => UInt8.ofNat_toNat
theorem decN_bytes (n : Nat) : (strOfNums (decN n)).data.toList = Lib.decDigits n := by rw [strOfNums_data]; exact byte_back _
theorem decN_small {n : Nat} (h : n < 10) : decN n = [48 + (n : Int)] := by
  unfold decN
  rw [Lib.decDigits_one h]
  simp only [List.map_cons, List.map_nil, UInt8.toNat_ofNat', List.cons.injEq, and_true]
  omega
theorem decN_big {n : Nat} (h : ¬ n < 10) : decN n = decN (n / 10) ++ [48 + ((n % 10 : Nat) : Int)] := by
  unfold decN
  rw [Lib.decDigits, dif_neg h, List.map_append]
  simp only [List.map_cons, List.map_nil, UInt8.toNat_ofNat', List.append_cancel_left_eq, List.cons.injEq, and_true]
  omega
/-- the digits laid so far -/
structure DecAt (n m : Nat) (l : List Int) : Prop where
  eq : decN m ++ l = decN n
  le : m * 10 ^ l.length ≤ n
  pos : l = [] ∨ 1 ≤ m
theorem DecAt.start (n : Nat) : DecAt n n [] := ⟨by simp, by simp, .inl rfl⟩
theorem DecAt.next {n m : Nat} {l : List Int} (h : DecAt n m l) (hm : 9 < m) : DecAt n (m / 10) ((48 + ((m % 10 : Nat) : Int)) :: l) := by
  refine ⟨?_, ?_, .inr (by omega)⟩
  · rw [← h.eq, decN_big (n := m) (by omega)]; simp
  · have h1 := h.le
    rw [List.length_cons, Nat.pow_succ, Nat.mul_comm (10 ^ l.length) 10, ← Nat.mul_assoc]
    exact Nat.le_trans (Nat.mul_le_mul_right _ (by omega)) h1
theorem DecAt.short {n m : Nat} {l : List Int} (h : DecAt n m l) (hn : n < 10 ^ 19) : l.length ≤ 18 := by
  rcases h.pos with rfl | h1
  · simp
  · have h2 := h.le
    rcases Nat.lt_or_ge 18 l.length with h3 | h3
    · have := Nat.pow_le_pow_right (show 0 < 10 by omega) (show 19 ≤ l.length by omega)
      have h4 : 1 * 10 ^ l.length ≤ m * 10 ^ l.length := Nat.mul_le_mul_right _ h1
      omega
    · exact h3
theorem DecAt.done {n m : Nat} {l : List Int} (h : DecAt n m l) (hm : m ≤ 9) : (48 + (m : Int)) :: l = decN n := by
  rw [← h.eq, decN_small (by omega)]; rfl
theorem parse_snoc (c : UInt8) (hc : 48 ≤ c.toNat ∧ c.toNat ≤ 57) : ∀ (l : List UInt8) (acc v : Nat), Lib.parseUint10 acc l = .ok v → v < 100000000000000000 → Lib.parseUint10 acc (l ++ [c]) = .ok (v * 10 + (c.toNat - 48))
  | [], acc, v, h, hv => by
    simp only [Lib.parseUint10] at h
    injection h with h
    subst h
    simp only [List.nil_append, Lib.parseUint10]
    rw [if_pos hc, if_neg (by omega), if_neg (by omega)]
  | b :: r, acc, v, h, hv => by
    simp only [Lib.parseUint10] at h
    simp only [List.cons_append, Lib.parseUint10]
    split at h
    · rename_i h1
      rw [if_pos h1]
      split at h
      · cases h
      · rename_i h2
        rw [if_neg h2]
        split at h
        · cases h
        · rename_i h3
          rw [if_neg h3]
          exact parse_snoc c hc r _ v h hv
    · cases h
theorem dec_digits : ∀ (k : Nat), ∀ b ∈ Lib.decDigits k, 48 ≤ b.toNat ∧ b.toNat ≤ 57 := by
  intro k
  induction k using Nat.strongRecOn with
  | ind k ih =>
    intro b hb
    by_cases h : k < 10
    · rw [Lib.decDigits_one h, List.mem_singleton] at hb
      subst hb
      rw [UInt8.toNat_ofNat']; omega
    · rw [Lib.decDigits, dif_neg h] at hb
      rcases List.mem_append.1 hb with hb | hb
      · exact ih (k / 10) (by omega) b hb
      · rw [List.mem_singleton] at hb
        subst hb
        rw [UInt8.toNat_ofNat']; omega
theorem dec_ne (k : Nat) : Lib.decDigits k ≠ [] := by
  by_cases h : k < 10
  · rw [Lib.decDigits_one h]; simp
  · rw [Lib.decDigits, dif_neg h]; simp
theorem dec_parse : ∀ (k : Nat), k < 100000000000000000 → Lib.parseUint10 0 (Lib.decDigits k) = .ok k := by
  intro k
  induction k using Nat.strongRecOn with
  | ind k ih =>
    intro hk
    by_cases h : k < 10
    · rw [Lib.decDigits_one h]
      have := parse_snoc (UInt8.ofNat (48 + k)) (by rw [UInt8.toNat_ofNat']; omega) [] 0 0 rfl (by omega)
      rw [List.nil_append] at this
      rw [this, UInt8.toNat_ofNat']
      congr 1; omega
    · rw [Lib.decDigits, dif_neg h, parse_snoc _ (by rw [UInt8.toNat_ofNat']; omega) _ 0 (k / 10) (ih (k / 10) (by omega) (by omega)) (by omega), UInt8.toNat_ofNat']
      congr 1; omega
theorem dec_ok (k : Nat) (hk : k ≤ 1000) : Lib.atoiAll (Lib.decDigits k) = .ok (k : Int) := by
  have h1 := dec_parse k (by omega)
  have h2 := dec_digits k
  have h3 := dec_ne k
  generalize Lib.decDigits k = l at *
  match l, h3 with
  | c :: r, _ =>
    have := h2 c (by simp)
    rw [Lib.atoiAll_plain c r (by omega) (by omega)]
    unfold Lib.parseMag
    rw [if_neg (by simp), h1]
    unfold Lib.signless
    dsimp only
    rw [if_neg (by omega)]
end Go.Proofs.YtaanppihgldeaaaGreatDoor
namespace Go.Proofs.YtaanppihgldeaaaGreatDoor
set_option linter.unusedSimpArgs false
set_option linter.unusedVariables false
set_option linter.unusedVariables false
open Go.RowKit

theorem conv_byte {w : World} {b c : Nat} {d : Int} (h : w.cell? ⟨b, 0, none⟩ = some (.int .u8 d)) :
    (Go.convert 90 9 (.slice (some ⟨b, 0, none⟩) 1 c)).run Tryz.prog w = .ok (.string (strOfNums [d])) w :=
  run_convert_bytes_arg (P := Tryz.prog) w 90 5 Tryz.underlying90 Tryz.underlying5 b 0 1 c [d] rfl (fun i hi => by
    obtain rfl : i = 0 := by omega
    exact h) 9 Tryz.underlying9
theorem str1_size (d : Int) : (strOfNums [d]).size = 1 := by rw [strOfNums_size]; rfl
set_option maxHeartbeats 1000000 in
theorem specFormatInt_pos (n : Nat) (w : World) (hn : n ≤ 9223372036854775807) :
    Calls Tryz.prog 46 #[.int .i64 (n : Int)] w fun e w' => e = .returned (.string (strOfNums (decN n))) ∧ Below w.heap.size w w' := by
  have h1 : ¬ ((n : Int) < 0) := by omega
  have HN := Lib.hid (show n < 10 ^ 19 by omega)
  go_enter Tryz.func46, Tryz.ntmps46
  go_wp2
  go_loopw [0, 3] (fun v s_ wr => ∃ (m : Nat) (l : List Int), v = .int .i64 (m : Int) ∧ s_ = .string (strOfNums l) ∧ Hid (DecAt n m l) ∧ m ≤ n ∧ Below w.heap.size w wr) (fun v _ _ => (intOf v).toNat)
  case atStart => exact ⟨n, [], rfl, rfl, DecAt.start n, Nat.le_refl _, Below.refl _ _⟩
  case round =>
    obtain ⟨m, l, rfl, rfl, D, hm, hb⟩ := hrel
    have hl := D.out.short HN.out
    have hz := strOfNums_size l
    have hz1 : (strOfNums l).size ≤ 18 := by omega
    have zr := hb.size
    by_cases h9 : 9 < m
    · have D2 : Hid _ := D.out.next h9
      obtain ⟨d, hd⟩ : ∃ d : Nat, m % 10 = d := ⟨_, rfl⟩
      obtain ⟨q, hq⟩ : ∃ q : Nat, m / 10 = q := ⟨_, rfl⟩
      rw [hd, hq] at D2
      have hd9 : d ≤ 9 := by omega
      have hqm : q < m := by omega
      have t1 : (9 : Int) < (m : Int) := by omega
      have e1 : (m : Int).tmod 10 = (d : Int) := by rw [Int.tmod_eq_emod_of_nonneg (by omega)]; omega
      have e2 : (m : Int).tdiv 10 = (q : Int) := by rw [Int.tdiv_eq_ediv_of_nonneg (by omega)]; omega
      have w8 : IntKind.u8.wrap (48 + (d : Int)) = 48 + (d : Int) := by rw [IntKind.wrap_u8]; omega
      have hc := conv_byte (c := 1) (new_cell wr (.int .u8 (48 + (d : Int))) 5 rfl)
      have ha := hb.alloc zr (.cells #[.int .u8 (48 + (d : Int))] 5)
      have hz2 : (strOfNums [48 + (d : Int)]).size + (strOfNums l).size ≤ 9223372036854775807 := by rw [str1_size]; omega
      have ec := str_append [48 + (d : Int)] l
      clear hd hq hz hl hb D
      go_wp2
      go_roundw
      case rel => exact ⟨q, (48 + (d : Int)) :: l, by go_num, rfl, D2, by omega, ha⟩
      case measure => simp [intOf]; omega
    · have D2 := Lib.hid (D.out.done (by omega))
      have t1 : ¬ ((9 : Int) < (m : Int)) := by omega
      have w8 : IntKind.u8.wrap (48 + (m : Int)) = 48 + (m : Int) := by rw [IntKind.wrap_u8]; omega
      have hc := conv_byte (c := 1) (new_cell wr (.int .u8 (48 + (m : Int))) 5 rfl)
      have ha := hb.alloc zr (.cells #[.int .u8 (48 + (m : Int))] 5)
      have hz2 : (strOfNums [48 + (m : Int)]).size + (strOfNums l).size ≤ 9223372036854775807 := by rw [str1_size]; omega
      have ec := str_append [48 + (m : Int)] l
      rw [List.singleton_append, D2.out] at ec
      have HE := Lib.hid ec
      clear ec hz hl hb D D2
      go_wp2
      go_ret
      exact ⟨by rw [HE.out]; rfl, ha⟩
theorem neg_div (k : Nat) : (-(k : Int)).tdiv 10 = -((k / 10 : Nat) : Int) := by rw [Int.neg_tdiv, Int.tdiv_eq_ediv_of_nonneg (by omega)]; omega
theorem neg_mod (k : Nat) : (-(k : Int)).tmod 10 = -((k % 10 : Nat) : Int) := by rw [Int.neg_tmod, Int.tmod_eq_emod_of_nonneg (by omega)]; omega
set_option maxHeartbeats 1000000 in
theorem specFormatInt_one (x : Int) (w : World) (h1 : x < 0) (h9 : -9 ≤ x) (e1 : x.tdiv 10 = 0) :
    Calls Tryz.prog 46 #[.int .i64 x] w fun e w' => ∃ s : ByteArray, e = .returned (.string s) ∧ s.size ≤ 2 ∧ Below w.heap.size w w' := by
  have w8 : IntKind.u8.wrap (48 - x) = 48 - x := by rw [IntKind.wrap_u8]; omega
  have hc := conv_byte (c := 1) (new_cell w (.int .u8 (48 - x)) 5 rfl)
  have ha := (Below.refl w.heap.size w).alloc (Nat.le_refl _) (.cells #[.int .u8 (48 - x)] 5)
  have hz2 : ({ data := #[45] } : ByteArray).size + (strOfNums [48 - x]).size ≤ 9223372036854775807 := by rw [str1_size]; decide
  have HF : Hid (({ data := #[45] } ++ strOfNums [48 - x] : ByteArray).size ≤ 2) := by show _ ≤ _; rw [ByteArray.size_append, str1_size]; exact Nat.le_refl _
  go_enter Tryz.func46, Tryz.ntmps46
  go_wp2
  go_ret
  exact ⟨_, rfl, HF.out, ha⟩
set_option maxRecDepth 100000 in
set_option maxHeartbeats 1000000 in
theorem specFormatInt_neg : ∀ (d k : Nat) (w : World), 1 ≤ k → k ≤ 9223372036854775808 → k < 10 ^ (d + 1) → d ≤ 20 →
    Calls Tryz.prog 46 #[.int .i64 (-(k : Int))] w fun e w' => ∃ s : ByteArray, e = .returned (.string s) ∧ s.size ≤ d + 2 ∧ Below w.heap.size w w' := by
  intro d
  induction d with
  | zero =>
    intro k w h1 hlo hd _
    have h9 : k ≤ 9 := by simp at hd; omega
    exact specFormatInt_one _ w (by omega) (by omega) (by rw [neg_div]; omega)
  | succ d ih =>
    intro k w h1 hlo hd hd20
    by_cases h9 : k ≤ 9
    · exact (specFormatInt_one _ w (by omega) (by omega) (by rw [neg_div]; omega)).mono fun e w' ⟨s, a, b, c⟩ => ⟨s, a, by omega, c⟩
    · have e1 := neg_div k
      have e2 := neg_mod k
      have IH := Lib.hid (fun w => ih (k / 10) w (by omega) (by omega) (by rw [Nat.pow_succ] at hd; omega) (by omega))
      obtain ⟨y, hy⟩ : ∃ y : Int, -((k / 10 : Nat) : Int) = y := ⟨_, rfl⟩
      obtain ⟨z, hz⟩ : ∃ z : Int, -((k % 10 : Nat) : Int) = z := ⟨_, rfl⟩
      obtain ⟨x, hx⟩ : ∃ x : Int, -(k : Int) = x := ⟨_, rfl⟩
      rw [hx] at e1 e2 ⊢
      rw [hy] at e1 IH
      rw [hz] at e2
      have e0 : (y == 0) = false := by rw [beq_eq_false_iff_ne]; omega
      have y0 : y < 0 := by omega
      have yl : -922337203685477581 ≤ y := by omega
      have z0 : z ≤ 0 := by omega
      have z9 : -9 ≤ z := by omega
      have x0 : x < 0 := by omega
      have xl : -9223372036854775808 ≤ x := by omega
      have w8 : IntKind.u8.wrap (48 - z) = 48 - z := by rw [IntKind.wrap_u8]; omega
      have w9 : IntKind.i64.wrap (48 - z) = 48 - z := IntWalk.i64_in _ (by omega)
      have wy : IntKind.i64.wrap y = y := IntWalk.i64_in _ (by omega)
      clear hd hy hz hx h9 ih h1 hlo
      go_enter Tryz.func46, Tryz.ntmps46
      go_upto_region 4 with fail
      have hnew : ∀ W : World, (W.alloc (.cells #[.int .u8 (48 - z)] 5)).cell? ⟨W.heap.size, 0, none⟩ = some (.int .u8 (48 - z)) := fun W => new_cell W _ _ rfl
      have hcv : ∀ (W : World) (b : Nat), W.cell? ⟨b, 0, none⟩ = some (.int .u8 (48 - z)) → (Go.convert 90 9 (.slice (some ⟨b, 0, none⟩) 1 1)).run Tryz.prog W = .ok (.string (strOfNums [48 - z])) W := fun W b h => conv_byte h
      have hz2 : ∀ s : ByteArray, s.size ≤ d + 2 → s.size + (strOfNums [48 - z]).size ≤ 9223372036854775807 := fun s h => by rw [str1_size]; omega
      go_region_with (go_at_call 46; (with_reducible refine (IH.out _).mono ?_); rintro e w2 ⟨s, rfl, hs, hb⟩; have hs2 := hz2 s hs; try (have cc := cell_carry hb (hnew _)))
      all_goals
        have hs3 : Hid ((s ++ strOfNums [48 - z]).size ≤ d + 1 + 2) := by show _ ≤ _; rw [ByteArray.size_append, str1_size]; omega
        have hbf : ∃ W, Hid (W = w2) := ⟨_, rfl⟩
        have hbw := (Below.refl w.heap.size w).drew
        clear hbf
        go_wp2
        go_ret
        first
          | exact ⟨_, rfl, hs3.out, (hbw.trans hb).alloc (hbw.trans hb).size _⟩
          | exact ⟨_, rfl, hs3.out, (hbw.alloc (Nat.le_refl _) _).trans (hb.mono (by simp))⟩
theorem specFormatInt (n : Int) (w : World) (h0 : -9223372036854775808 ≤ n) (h1 : n ≤ 9223372036854775807) :
    Calls Tryz.prog 46 #[.int .i64 n] w fun e w' => ∃ s : ByteArray, e = .returned (.string s) ∧ (0 ≤ n → s = strOfNums (decN n.toNat)) ∧ Below w.heap.size w w' := by
  rcases Int.lt_or_le n 0 with h | h
  · have hk : n = -((n.natAbs : Nat) : Int) := by omega
    rw [hk]
    refine (specFormatInt_neg 20 n.natAbs w (by omega) (by omega) (by omega) (Nat.le_refl _)).mono ?_
    rintro e w' ⟨s, a, _, c⟩
    exact ⟨s, a, fun h => by omega, c⟩
  · have hk : n = ((n.toNat : Nat) : Int) := by omega
    have := specFormatInt_pos n.toNat w (by omega)
    rw [← hk] at this
    refine this.mono ?_
    rintro e w' ⟨rfl, c⟩
    exact ⟨_, rfl, fun _ => rfl, c⟩
end Go.Proofs.YtaanppihgldeaaaGreatDoor
