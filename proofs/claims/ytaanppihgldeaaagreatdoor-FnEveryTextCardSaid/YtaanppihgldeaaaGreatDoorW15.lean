/- Kept pairs: whether they lead from one candidate to another one, the program's side. Lists of rows that are collected one by one: plain lemmas. Locked pairs, the program's side. LockedPairs, the program's side. -/
import Derived.Test.YtaanppihgldeaaaGreatDoorW14
import Derived.Test.YtaanppihgldeaaaGreatDoorW05
import Derived.Test.YtaanppihgldeaaaGreatDoorW02
import Derived.Test.YtaanppihgldeaaaGreatDoorW03
namespace Go.Proofs.YtaanppihgldeaaaGreatDoor
set_option linter.unusedSimpArgs false
set_option linter.unusedVariables false
set_option linter.unusedVariables false
open Go.RowKit

/-- the pairs lead from a number to b -/
inductive Reach (rows : List (List Int)) (b : Int) : Int → Prop
  | refl : Reach rows b b
  | step {r : List Int} : r ∈ rows → Reach rows b (ix r 1) → Reach rows b (ix r 0)
noncomputable def leadC (rows : List (List Int)) (a b : Int) : Bool := @decide (Reach rows b a) (Classical.propDecidable _)
theorem leadC_iff {rows : List (List Int)} {a b : Int} : leadC rows a b = true ↔ Reach rows b a := by unfold leadC; exact @decide_eq_true_iff _ (Classical.propDecidable _)
theorem reach_iff {rows : List (List Int)} {a b : Int} : Reach rows b a ↔ a = b ∨ ∃ r ∈ rows, ix r 0 = a ∧ Reach rows b (ix r 1) := by
  constructor
  · intro h
    cases h with
    | refl => exact .inl rfl
    | step h1 h2 => exact .inr ⟨_, h1, rfl, h2⟩
  · rintro (rfl | ⟨r, h1, rfl, h2⟩)
    · exact .refl
    · exact .step h1 h2
theorem leadC_same (rows : List (List Int)) (a : Int) : leadC rows a a = true := leadC_iff.2 .refl
theorem leadC_rec {rows : List (List Int)} {a b : Int} (h : a ≠ b) : leadC rows a b = rows.any (fun r => (ix r 0 == a) && leadC rows (ix r 1) b) := by
  rw [Bool.eq_iff_iff, leadC_iff, reach_iff, List.any_eq_true]
  constructor
  · rintro (e | ⟨r, h1, h2, h3⟩)
    · exact absurd e h
    · exact ⟨r, h1, by rw [beq_iff_eq.2 h2, leadC_iff.2 h3]; rfl⟩
  · rintro ⟨r, h1, h2⟩
    rw [Bool.and_eq_true, beq_iff_eq, leadC_iff] at h2
    exact .inr ⟨r, h1, h2.1, h2.2⟩
theorem Reach.tail {rows : List (List Int)} {a : Int} {r : List Int} (hr : r ∈ rows) (h : Reach rows (ix r 0) a) : Reach rows (ix r 1) a := by
  induction h with
  | refl => exact .step hr .refl
  | step h1 _ ih => exact .step h1 ih
/-- no way along the pairs comes back -/
def Acyc (rows : List (List Int)) : Prop := ∃ (N : Nat) (rk : Int → Nat), (∀ x, rk x ≤ N) ∧ ∀ r ∈ rows, rk (ix r 0) < rk (ix r 1)
theorem Acyc.nil : Acyc [] := ⟨0, fun _ => 0, fun _ => Nat.le_refl _, fun _ h => by simp at h⟩
theorem Acyc.add {rows : List (List Int)} {r : List Int} (h : Acyc rows) (hr : leadC rows (ix r 1) (ix r 0) = false) : Acyc (rows ++ [r]) := by
  obtain ⟨N, rk, h1, h2⟩ := h
  refine ⟨2 * N + 1, fun x => rk x + (if leadC rows (ix r 1) x then N + 1 else 0), fun x => by have := h1 x; simp only; split <;> omega, fun q hq => ?_⟩
  rw [List.mem_append, List.mem_singleton] at hq
  simp only
  rcases hq with hq | rfl
  · have a1 := h2 q hq
    by_cases e : leadC rows (ix r 1) (ix q 0) = true
    · have e2 : leadC rows (ix r 1) (ix q 1) = true := leadC_iff.2 (Reach.tail hq (leadC_iff.1 e))
      rw [if_pos e, if_pos e2]; omega
    · rw [if_neg e]; split <;> omega
  · have a1 := h1 (ix q 0)
    rw [hr, leadC_same, if_neg (by simp), if_pos rfl]; omega
theorem leads1 (rows : List (List Int)) (A A' : Option Addr) (n c c' g1 g2 g3 : Nat) (r : List Int) (a b : Int) (W : World) (hin : IntsAt W A' r.length r) (h2 : r.length = 2) (y0 : W.cell? ⟨g1, 0, none⟩ = some (.int .i64 a)) (z0 : W.cell? ⟨g2, 0, none⟩ = some (.slice A n c)) (u0 : W.cell? ⟨g3, 0, none⟩ = some (.int .i64 b))
    (hrec : ix r 0 = a → ∀ L : Later W, Calls Tryz.prog 175 #[.slice A n c, .int .i64 (ix r 1), .int .i64 b] L.W fun e W' => e = .returned (.bool (leadC rows (ix r 1) b)) ∧ Below L.W.heap.size L.W W') :
    Calls Tryz.prog 209 #[.slice A' r.length c', .pointer (some ⟨g1, 0, none⟩), .pointer (some ⟨g2, 0, none⟩), .pointer (some ⟨g3, 0, none⟩)] W fun e W' => e = .returned (.bool ((ix r 0 == a) && leadC rows (ix r 1) b)) ∧ Below W.heap.size W W' := by
  obtain ⟨bb, o, rfl, _, hc⟩ := hin.at_ (show 0 < r.length by omega)
  have d0 := hc 0 (by omega)
  have d1 := hc 1 (by omega)
  rw [Nat.add_zero] at d0
  have q0 : ∀ L : Later W, L.W.cell? ⟨bb, o, none⟩ = some (.int .i64 (ix r 0)) := fun L => L.cell d0
  have q1 : ∀ L : Later W, L.W.cell? ⟨bb, o + 1, none⟩ = some (.int .i64 (ix r 1)) := fun L => L.cell d1
  have q2 : ∀ L : Later W, L.W.cell? ⟨g1, 0, none⟩ = some (.int .i64 a) := fun L => L.cell y0
  have q3 : ∀ L : Later W, L.W.cell? ⟨g2, 0, none⟩ = some (.slice A n c) := fun L => L.cell z0
  have q4 : ∀ L : Later W, L.W.cell? ⟨g3, 0, none⟩ = some (.int .i64 b) := fun L => L.cell u0
  have l0 : (0 : Int) < (r.length : Int) := by omega
  have l1 : (1 : Int) < (r.length : Int) := by omega
  have HR := Lib.hid hrec
  clear hc hin hrec h2
  generalize ix r 0 = x at *
  generalize ix r 1 = y at *
  by_cases hxa : x = a
  · subst hxa
    have K1 := Lib.hid (fun L => Later.call L (HR.out rfl L))
    have e0 : (x == x) = true := by simp
    rw [e0, Bool.true_and]
    generalize leadC rows y b = q at *
    clear HR
    go_enter Tryz.func209, Tryz.ntmps209
    go_wp2
    refine wp_region_later (by kernel_rfl) (by kernel_rfl) ?_
    repeat (go_big_quiet_step (first | (with_reducible exact K1.out _)))
    (refine wpQuiet_nil ?_; rintro wl ⟨L_, hwl_⟩; have hbl := L_.h; rw [← hwl_] at hbl; clear hwl_ L_)
    go_wp2
    go_ret
    exact ⟨rfl, hbl⟩
  · have e0 : (x == a) = false := by rw [beq_eq_false_iff_ne]; exact hxa
    rw [e0, Bool.false_and]
    clear HR hxa
    go_enter Tryz.func209, Tryz.ntmps209
    go_wp2
    refine wp_region_later (by kernel_rfl) (by kernel_rfl) ?_
    repeat (go_big_quiet_step (fail))
    (refine wpQuiet_nil ?_; rintro wl ⟨L_, hwl_⟩; have hbl := L_.h; rw [← hwl_] at hbl; clear hwl_ L_)
    go_wp2
    go_ret
    exact ⟨rfl, hbl⟩
theorem implLeads_d {rows : List (List Int)} {N : Nat} {rk : Int → Nat} (h1 : ∀ x, rk x ≤ N) (h2 : ∀ r ∈ rows, rk (ix r 0) < rk (ix r 1)) (hl : ∀ r ∈ rows, r.length = 2) (b : Int) (A : Option Addr) (n c : Nat) (hn : n ≤ 1048576) :
    ∀ (d : Nat) (a : Int) (w : World), N - rk a < d → RowsAt w A n rows → Calls Tryz.prog 175 #[.slice A n c, .int .i64 a, .int .i64 b] w fun e W' => e = .returned (.bool (leadC rows a b)) ∧ Below w.heap.size w W' := by
  intro d
  induction d with
  | zero =>
    intro a w hd h
    exact absurd hd (by omega)
  | succ d ih =>
    intro a w hd h
    have b1 := alloc_below w (.cells #[.slice A n c] 98)
    have z0 := new_cell w (.slice A n c) 98 rfl
    have b2 := alloc_below (w.alloc (.cells #[.slice A n c] 98)) (.cells #[.int .i64 a] 3)
    have y0 := new_cell (w.alloc (.cells #[.slice A n c] 98)) (.int .i64 a) 3 (g := w.heap.size + 1) (by simp)
    have b3 := alloc_below ((w.alloc (.cells #[.slice A n c] 98)).alloc (.cells #[.int .i64 a] 3)) (.cells #[.int .i64 b] 3)
    have u0 := new_cell ((w.alloc (.cells #[.slice A n c] 98)).alloc (.cells #[.int .i64 a] 3)) (.int .i64 b) 3 (g := w.heap.size + 2) (by simp)
    replace z0 := cell_carry b3 (cell_carry b2 z0)
    replace y0 := cell_carry b3 y0
    have hB := b1.trans ((b2.mono b1.size).trans (b3.mono (Nat.le_trans b1.size b2.size)))
    have h3 := h.below hB
    generalize hw0 : ((w.alloc (.cells #[.slice A n c] 98)).alloc (.cells #[.int .i64 a] 3)).alloc (.cells #[.int .i64 b] 3) = w0 at *
    clear b1 b2 b3
    by_cases hab : a = b
    · subst hab
      rw [leadC_same]
      clear ih
      go_enter Tryz.func175, Tryz.ntmps175
      go_wp2
      go_ret
      exact ⟨rfl, hB⟩
    · rw [leadC_rec hab]
      have e0 : (a == b) = false := by rw [beq_eq_false_iff_ne]; exact hab
      have K := Lib.hid (containsFuncR_any 209 #[.pointer (some ⟨w.heap.size + 1, 0, none⟩), .pointer (some ⟨w.heap.size, 0, none⟩), .pointer (some ⟨w.heap.size + 2, 0, none⟩)] (fun r => (ix r 0 == a) && leadC rows (ix r 1) b) A n c rows w0 h3 (by omega) (enters Tryz.func209 (by kernel_rfl) rfl)
        (fun A' c' r W hr hin hcc hb => leads1 rows A A' n c c' _ _ _ r a b W hin (hl r hr) (cell_carry hb y0) (cell_carry hb z0) (cell_carry hb u0) (fun e L => ih _ _ (by have := h2 r hr; rw [e] at this; have := h1 (ix r 1); omega) ((h3.below hb).below L.h))))
      generalize rows.any (fun r => (ix r 0 == a) && leadC rows (ix r 1) b) = q at *
      clear ih hab
      go_enter Tryz.func175, Tryz.ntmps175
      go_wp2_with fail
      (with_reducible refine (K.out).mono ?_)
      rintro e w1 ⟨rfl, b1⟩
      replace hB := hB.trans (b1.mono hB.size)
      clear b1
      go_wp2
      go_ret
      exact ⟨rfl, hB⟩
theorem implLeads {rows : List (List Int)} (ha : Acyc rows) (hl : ∀ r ∈ rows, r.length = 2) (A : Option Addr) (n c : Nat) (hn : n ≤ 1048576) (a b : Int) (w : World) (h : RowsAt w A n rows) :
    Calls Tryz.prog 175 #[.slice A n c, .int .i64 a, .int .i64 b] w fun e W' => e = .returned (.bool (leadC rows a b)) ∧ Below w.heap.size w W' := by
  obtain ⟨N, rk, h1, h2⟩ := ha
  exact implLeads_d h1 h2 hl b A n c hn (N - rk a + 1) a w (by omega) h
/-- a pair's margin -/
def keyR (vs : List Vt) (r : List Int) : Int := marginP vs (ix r 0) (ix r 1)
theorem margin_bd {m : Int} {vs : List Vt} (F : PF m vs) (a b : Int) : -24000 ≤ marginP vs a b ∧ marginP vs a b ≤ 24000 := by
  have := pair_bd F a b
  have := pair_bd F b a
  unfold marginP; omega
set_option maxHeartbeats 400000 in
theorem lockedCmp (m : Int) (A : Option Addr) (n c g : Nat) (vs : List Vt) (A1 A2 : Option Addr) (c1 c2 : Nat) (x y : List Int) (W : World) (h : VotesAt W A n vs) (F : PF m vs) (x0 : W.cell? ⟨g, 0, none⟩ = some (.int .i64 m)) (x1 : W.cell? ⟨g, 1, none⟩ = some (.slice A n c))
    (h1 : IntsAt W A1 x.length x) (l1 : x.length = 2) (h2 : IntsAt W A2 y.length y) (l2 : y.length = 2) :
    Calls Tryz.prog 174 #[.slice A1 x.length c1, .slice A2 y.length c2, .pointer (some ⟨g, 0, none⟩)] W fun e W' => e = .returned (.int .i64 (keyR vs y - keyR vs x)) ∧ Below W.heap.size W W' := by
  obtain ⟨ba, oa, rfl, _, ha⟩ := h1.at_ (show 0 < x.length by omega)
  obtain ⟨bb, ob, rfl, _, hb⟩ := h2.at_ (show 0 < y.length by omega)
  have a0 := ha 0 (by omega)
  have a1 := ha 1 (by omega)
  have b0 := hb 0 (by omega)
  have b1 := hb 1 (by omega)
  rw [Nat.add_zero] at a0 b0
  have q0 : ∀ L : Later W, L.W.cell? ⟨ba, oa, none⟩ = some (.int .i64 (ix x 0)) := fun L => L.cell a0
  have q1 : ∀ L : Later W, L.W.cell? ⟨ba, oa + 1, none⟩ = some (.int .i64 (ix x 1)) := fun L => L.cell a1
  have q2 : ∀ L : Later W, L.W.cell? ⟨bb, ob, none⟩ = some (.int .i64 (ix y 0)) := fun L => L.cell b0
  have q3 : ∀ L : Later W, L.W.cell? ⟨bb, ob + 1, none⟩ = some (.int .i64 (ix y 1)) := fun L => L.cell b1
  have q4 : ∀ L : Later W, L.W.cell? ⟨g, 0, none⟩ = some (.int .i64 m) := fun L => L.cell x0
  have q5 : ∀ L : Later W, L.W.cell? ⟨g, 1, none⟩ = some (.slice A n c) := fun L => L.cell x1
  have i0 : (0 : Int) < (x.length : Int) := by omega
  have i1 : (1 : Int) < (x.length : Int) := by omega
  have j0 : (0 : Int) < (y.length : Int) := by omega
  have j1 : (1 : Int) < (y.length : Int) := by omega
  have K1 : Hid (∀ L : Later W, Calls Tryz.prog 96 #[.agg #[.int .i64 m, .slice A n c], .int .i64 (ix y 0), .int .i64 (ix y 1)] L.W fun e W' => e = .returned (.int .i64 (keyR vs y)) ∧ ∃ L' : Later W, W' = L'.W) :=
    fun L => L.call (implMargin m A n c vs (ix y 0) (ix y 1) L.W (h.below L.h) F)
  have K2 : Hid (∀ L : Later W, Calls Tryz.prog 96 #[.agg #[.int .i64 m, .slice A n c], .int .i64 (ix x 0), .int .i64 (ix x 1)] L.W fun e W' => e = .returned (.int .i64 (keyR vs x)) ∧ ∃ L' : Later W, W' = L'.W) :=
    fun L => L.call (implMargin m A n c vs (ix x 0) (ix x 1) L.W (h.below L.h) F)
  have m1 : -24000 ≤ keyR vs x ∧ keyR vs x ≤ 24000 := margin_bd F _ _
  have m2 : -24000 ≤ keyR vs y ∧ keyR vs y ≤ 24000 := margin_bd F _ _
  generalize keyR vs x = kx at *
  generalize keyR vs y = ky at *
  generalize ix x 0 = X0 at *
  generalize ix x 1 = X1 at *
  generalize ix y 0 = Y0 at *
  generalize ix y 1 = Y1 at *
  have ew : IntKind.i64.wrap (ky - kx) = ky - kx := IntWalk.i64_in _ (by omega)
  clear ha hb h h1 h2 l1 l2 a0 a1 b0 b1 x0 x1
  go_enter Tryz.func174, Tryz.ntmps174
  go_wp2
  refine wp_region_later (by kernel_rfl) (by kernel_rfl) ?_
  repeat (go_big_quiet_step (first | (with_reducible exact K1.out _) | (with_reducible exact K2.out _)))
  (refine wpQuiet_nil ?_; rintro wl ⟨L_, hwl_⟩; have hbl := L_.h; rw [← hwl_] at hbl; clear hwl_ L_)
  go_wp2
  go_ret
  exact ⟨rfl, hbl⟩
end Go.Proofs.YtaanppihgldeaaaGreatDoor
namespace Go.Proofs.YtaanppihgldeaaaGreatDoor
set_option linter.unusedSimpArgs false
set_option linter.unusedVariables false
set_option linter.unusedVariables false
open Go.RowKit

/-- the rows g j of all j below k of which f holds -/
def coll (f : Nat → Bool) (g : Nat → List Int) : Nat → List (List Int)
  | 0 => []
  | k + 1 => if f k then coll f g k ++ [g k] else coll f g k
theorem coll_len (f : Nat → Bool) (g : Nat → List Int) (k : Nat) : (coll f g k).length ≤ k := by
  induction k with
  | zero => simp [coll]
  | succ k ih => simp only [coll]; split <;> (try simp) <;> omega
theorem coll_none {f : Nat → Bool} {g : Nat → List Int} {k : Nat} (h : ∀ j, j < k → f j = false) : coll f g k = [] := by
  induction k with
  | zero => rfl
  | succ k ih => rw [coll, h k (by omega), if_neg (by simp)]; exact ih fun j hj => h j (by omega)
theorem coll_yes {f : Nat → Bool} {g : Nat → List Int} {k : Nat} (h : f k = true) : coll f g (k + 1) = coll f g k ++ [g k] := by rw [coll, if_pos h]
theorem coll_no {f : Nat → Bool} {g : Nat → List Int} {k : Nat} (h : f k = false) : coll f g (k + 1) = coll f g k := by rw [coll, h, if_neg (by simp)]
theorem coll_congr {f f' : Nat → Bool} {g : Nat → List Int} {k : Nat} (h : ∀ j, j < k → f j = f' j) : coll f g k = coll f' g k := by
  induction k with
  | zero => rfl
  | succ k ih => rw [coll, coll, h k (by omega), ih fun j hj => h j (by omega)]
/-- the rows g i k of all i below the number and all k below n of which f holds, by i, then by k -/
def collTo (f : Nat → Nat → Bool) (g : Nat → Nat → List Int) (n : Nat) : Nat → List (List Int)
  | 0 => []
  | i + 1 => collTo f g n i ++ coll (f i) (g i) n
theorem collTo_len {f : Nat → Nat → Bool} {g : Nat → Nat → List Int} {n : Nat} (hn : n ≤ 10) (i : Nat) : (collTo f g n i).length ≤ i * 10 := by
  induction i with
  | zero => simp [collTo]
  | succ i ih => have := coll_len (f i) (g i) n; simp [collTo]; omega
theorem collTo_congr {f f' : Nat → Nat → Bool} {g : Nat → Nat → List Int} {n i : Nat} (h : ∀ a b, a < i → b < n → f a b = f' a b) : collTo f g n i = collTo f' g n i := by
  induction i with
  | zero => rfl
  | succ i ih => rw [collTo, collTo, ih (fun a b ha hb => h a b (by omega) hb), coll_congr fun j hj => h i j (by omega) hj]
theorem pref_same (xs : List Int) (a : Int) : pref xs a a = false := by unfold pref; simp
/-- rows that are pairs are no longer than 2 -/
theorem coll_mem {f : Nat → Bool} {g : Nat → List Int} {k : Nat} {x : List Int} (h : x ∈ coll f g k) : ∃ j, j < k ∧ f j = true ∧ x = g j := by
  induction k with
  | zero => simp [coll] at h
  | succ k ih =>
    simp only [coll] at h
    split at h
    · rename_i hf
      rw [List.mem_append, List.mem_singleton] at h
      rcases h with h | h
      · obtain ⟨j, hj, e⟩ := ih h; exact ⟨j, by omega, e⟩
      · exact ⟨k, by omega, hf, h⟩
    · obtain ⟨j, hj, e⟩ := ih h; exact ⟨j, by omega, e⟩
theorem collTo_mem {f : Nat → Nat → Bool} {g : Nat → Nat → List Int} {n i : Nat} {x : List Int} (h : x ∈ collTo f g n i) : ∃ a b, a < i ∧ b < n ∧ f a b = true ∧ x = g a b := by
  induction i with
  | zero => simp [collTo] at h
  | succ i ih =>
    rw [collTo, List.mem_append] at h
    rcases h with h | h
    · obtain ⟨a, b, ha, e⟩ := ih h; exact ⟨a, b, by omega, e⟩
    · obtain ⟨b, hb, e⟩ := coll_mem h; exact ⟨i, b, by omega, hb, e⟩
def pairG (i k : Nat) : List Int := [(i : Int), (k : Int)]
end Go.Proofs.YtaanppihgldeaaaGreatDoor
namespace Go.Proofs.YtaanppihgldeaaaGreatDoor
set_option linter.unusedSimpArgs false
set_option linter.unusedVariables false
set_option linter.unusedVariables false
open Go.RowKit

def pairsOf (vs : List Vt) (M : Nat) : List (List Int) := collTo (fun a b => beatsP vs (a : Int) (b : Int)) pairG M M
theorem coll_sum (f : Nat → Bool) (g : Nat → List Int) (k : Nat) : (coll f g (k + 1)).length = (coll f g k).length + (f k).toNat := by
  cases h : f k
  · rw [coll_no h]; rfl
  · rw [coll_yes h, List.length_append]; rfl
theorem collTo_sum (f : Nat → Nat → Bool) (g : Nat → Nat → List Int) (n i : Nat) : (collTo f g n (i + 1)).length = (collTo f g n i).length + (coll (f i) (g i) n).length := by rw [collTo, List.length_append]
theorem beats_asymm (vs : List Vt) (a b : Int) : (beatsP vs a b).toNat + (beatsP vs b a).toNat ≤ 1 := by
  have h : beatsP vs a b = true → beatsP vs b a = false := by
    unfold beatsP marginP
    intro h
    have := of_decide_eq_true h
    exact decide_eq_false (by omega)
  cases h1 : beatsP vs a b
  · cases beatsP vs b a <;> simp
  · rw [h h1]; simp
theorem pairs_lt (vs : List Vt) {M : Nat} (h : M ≤ 5) : (pairsOf vs M).length < 20 := by
  have key : ∀ f : Nat → Nat → Bool, (∀ a b, (f a b).toNat + (f b a).toNat ≤ 1) → (collTo f pairG M M).length < 20 := by
    intro f hf
    have h00 := hf 0 0
    have h11 := hf 1 1
    have h22 := hf 2 2
    have h33 := hf 3 3
    have h44 := hf 4 4
    have h01 := hf 0 1
    have h02 := hf 0 2
    have h03 := hf 0 3
    have h04 := hf 0 4
    have h12 := hf 1 2
    have h13 := hf 1 3
    have h14 := hf 1 4
    have h23 := hf 2 3
    have h24 := hf 2 4
    have h34 := hf 3 4
    have c0 : ∀ (p : Nat → Bool) (q : Nat → List Int), (coll p q 0).length = 0 := fun _ _ => rfl
    have t0 : ∀ (p : Nat → Nat → Bool) (q : Nat → Nat → List Int) (n : Nat), (collTo p q n 0).length = 0 := fun _ _ _ => rfl
    obtain rfl | rfl | rfl | rfl | rfl | rfl : M = 0 ∨ M = 1 ∨ M = 2 ∨ M = 3 ∨ M = 4 ∨ M = 5 := by omega
    all_goals
      simp only [collTo_sum, coll_sum, c0, t0]
      omega
  exact key _ fun a b => beats_asymm vs _ _
theorem pairsOf_mem {vs : List Vt} {M : Nat} {r : List Int} (h : r ∈ pairsOf vs M) : r.length = 2 ∧ (0 ≤ ix r 0 ∧ ix r 0 < M) ∧ (0 ≤ ix r 1 ∧ ix r 1 < M) := by
  obtain ⟨a, b, ha, hb, _, rfl⟩ := collTo_mem h
  have e0 : ix (pairG a b) 0 = (a : Int) := rfl
  have e1 : ix (pairG a b) 1 = (b : Int) := rfl
  rw [e0, e1]
  exact ⟨rfl, by omega, by omega⟩
theorem gz_snd (S : List ZE) (j : Nat) : (gz S j).2 = rx (S.map Prod.snd) j := by
  unfold gz rx
  simp only [List.getD, List.getElem?_map]
  cases S[j]? <;> rfl
theorem slideK_snd {kf : List Int → Int} {S S' : List ZE} {x y : ZE} (h : S.map Prod.snd = S'.map Prod.snd) (e : x.2 = y.2) : ∀ j, slideK (fun p => kf p.2) S x j = slideK (fun p => kf p.2) S' y j
  | 0 => rfl
  | j + 1 => by unfold slideK; simp only [gz_snd, h, e, slideK_snd h e j]
theorem insK_snd {kf : List Int → Int} {S S' : List ZE} {x y : ZE} (h : S.map Prod.snd = S'.map Prod.snd) (e : x.2 = y.2) : (insK (fun p => kf p.2) S x).map Prod.snd = (insK (fun p => kf p.2) S' y).map Prod.snd := by
  have hl : S.length = S'.length := by have := congrArg List.length h; simpa using this
  unfold insK
  rw [slideK_snd h e, hl]
  simp only [List.map_append, List.map_cons, List.map_take, List.map_drop, h, e]
theorem sortK_snd {kf : List Int → Int} {L L' : List ZE} (h : L.map Prod.snd = L'.map Prod.snd) : ∀ k, (sortK (fun p => kf p.2) L k).map Prod.snd = (sortK (fun p => kf p.2) L' k).map Prod.snd
  | 0 => rfl
  | k + 1 => insK_snd (sortK_snd h k) (by rw [gz_snd, gz_snd, h])
def zr (rows : List (List Int)) : List ZE := rows.map fun r => (.int .i64 0, r)
theorem zr_snd (rows : List (List Int)) : (zr rows).map Prod.snd = rows := by unfold zr; rw [List.map_map]; exact List.map_id _
theorem zr_len (rows : List (List Int)) : (zr rows).length = rows.length := by simp [zr]
/-- rows, greatest key first, those with the same key as they were -/
def sortedR (kf : List Int → Int) (rows : List (List Int)) : List (List Int) := (sortK (fun p => kf p.2) (zr rows) rows.length).map Prod.snd
theorem sortedR_len (kf : List Int → Int) (rows : List (List Int)) : (sortedR kf rows).length = rows.length := by
  unfold sortedR; rw [List.length_map, sortK_len (by rw [zr_len]; exact Nat.le_refl _)]
theorem sortedR_mem {kf : List Int → Int} {rows : List (List Int)} {r : List Int} (h : r ∈ sortedR kf rows) : r ∈ rows := by
  obtain ⟨p, hp, rfl⟩ := List.mem_map.1 h
  have := sortK_mem (by rw [zr_len]; exact Nat.le_refl _) hp
  have := List.mem_map_of_mem (f := Prod.snd) this
  rwa [zr_snd] at this
theorem sortedR_of {kf : List Int → Int} {Z : List ZE} : (sortK (fun p => kf p.2) Z Z.length).map Prod.snd = sortedR kf (Z.map Prod.snd) := by
  unfold sortedR
  rw [List.length_map]
  exact sortK_snd (by rw [zr_snd]) _
/-- the pairs kept of the first k: each that does not close a ring -/
noncomputable def lockR (ys : List (List Int)) : Nat → List (List Int)
  | 0 => []
  | k + 1 => if leadC (lockR ys k) (ix (rx ys k) 1) (ix (rx ys k) 0) then lockR ys k else lockR ys k ++ [rx ys k]
noncomputable def lockZ (Zs : List ZE) : Nat → List ZE
  | 0 => []
  | k + 1 => if leadC ((lockZ Zs k).map Prod.snd) (ix (gz Zs k).2 1) (ix (gz Zs k).2 0) then lockZ Zs k else lockZ Zs k ++ [gz Zs k]
theorem lockZ_snd (Zs : List ZE) : ∀ k, (lockZ Zs k).map Prod.snd = lockR (Zs.map Prod.snd) k
  | 0 => rfl
  | k + 1 => by
    rw [lockZ, lockR, lockZ_snd Zs k, gz_snd]
    split
    · exact lockZ_snd Zs k
    · rw [List.map_append, lockZ_snd Zs k]
      congr 1
      show [(gz Zs k).2] = _
      rw [gz_snd]
theorem lockZ_sub (Zs : List ZE) : ∀ k, k ≤ Zs.length → (lockZ Zs k).Sublist (Zs.take k)
  | 0, _ => by simp [lockZ]
  | k + 1, h => by
    rw [take_gz (by omega), lockZ]
    have ih := lockZ_sub Zs k (by omega)
    split
    · exact ih.trans (List.sublist_append_left _ _)
    · exact ih.append (List.Sublist.refl _)
theorem lockR_acyc (ys : List (List Int)) : ∀ k, Acyc (lockR ys k)
  | 0 => Acyc.nil
  | k + 1 => by
    rw [lockR]
    split
    · exact lockR_acyc ys k
    · rename_i h
      exact (lockR_acyc ys k).add (by simpa using h)
theorem lockR_mem {ys : List (List Int)} : ∀ {k : Nat}, k ≤ ys.length → ∀ r ∈ lockR ys k, r ∈ ys
  | 0, _, r, h => by simp [lockR] at h
  | k + 1, hk, r, h => by
    rw [lockR] at h
    split at h
    · exact lockR_mem (by omega) r h
    · rw [List.mem_append, List.mem_singleton] at h
      rcases h with h | rfl
      · exact lockR_mem (by omega) r h
      · exact rx_mem (by omega)
noncomputable def lockedP (vs : List Vt) (M : Nat) : List (List Int) := lockR (sortedR (keyR vs) (pairsOf vs M)) (sortedR (keyR vs) (pairsOf vs M)).length
theorem lockedP_acyc (vs : List Vt) (M : Nat) : Acyc (lockedP vs M) := lockR_acyc _ _
theorem lockedP_mem {vs : List Vt} {M : Nat} {r : List Int} (h : r ∈ lockedP vs M) : r.length = 2 ∧ (0 ≤ ix r 0 ∧ ix r 0 < M) ∧ (0 ≤ ix r 1 ∧ ix r 1 < M) := pairsOf_mem (sortedR_mem (lockR_mem (Nat.le_refl _) r h))
theorem ownsRow_some' {w : World} {lo n c : Nat} {A : Option Addr} {vs : List Value} (h : w.ownsRow lo 27 1 (.slice A n c) n vs) (hn : 0 < n) : ∃ g, A = some ⟨g, 0, none⟩ := by
  rcases h.2 with ⟨e, h0⟩ | ⟨g, cap, cur, hv, _⟩
  · omega
  · cases hv; exact ⟨g, rfl⟩
theorem rowsAt_of {w : World} {lo l2 h2 n c : Nat} {A : Option Addr} {Z : List ZE} (h1 : w.ownsRow lo 27 1 (.slice A n c) n (Z.map Prod.fst)) (hZ : RowsZ w l2 h2 Z) : RowsAt w A n (Z.map Prod.snd) := by
  have hl : Z.length = n := by have := h1.1; simpa using this
  refine ⟨by rw [List.length_map]; exact hl, fun hn => ?_⟩
  obtain ⟨g, rfl⟩ := ownsRow_some' h1 hn
  refine ⟨g, 0, rfl, fun j hj => ?_⟩
  have hc := World.ownsRow.cellAt h1 j (by omega)
  rw [gz_map (by omega)] at hc
  have ho := hZ.1 _ (gz_mem (S := Z) (j := j) (by omega))
  obtain ⟨A', c', e, hcc⟩ := ho.len
  rw [e] at hc ho
  rw [gz_snd] at hc ho hcc
  refine ⟨A', _, c', ?_, hcc, ?_⟩
  · rw [Nat.zero_add]; exact hc
  · simpa [rx] using ho.at_
end Go.Proofs.YtaanppihgldeaaaGreatDoor
namespace Go.Proofs.YtaanppihgldeaaaGreatDoor
set_option linter.unusedSimpArgs false
set_option linter.unusedVariables false
set_option linter.unusedVariables false
open Go.RowKit

theorem zip_fst {us : List Value} {xss : List (List Int)} (h : us.length = xss.length) : (us.zip xss).map Prod.fst = us := by rw [List.map_fst_zip]; omega
theorem zip_snd {us : List Value} {xss : List (List Int)} (h : us.length = xss.length) : (us.zip xss).map Prod.snd = xss := by rw [List.map_snd_zip]; omega
theorem sortPairs_any (m : Int) (A : Option Addr) (n c g : Nat) (vs : List Vt) (w1 : World) (h : VotesAt w1 A n vs) (F : PF m vs) (x0 : w1.cell? ⟨g, 0, none⟩ = some (.int .i64 m)) (x1 : w1.cell? ⟨g, 1, none⟩ = some (.slice A n c))
    (A1 : Option Addr) (c1 : Nat) (P : List (List Int)) (hP : ∀ r ∈ P, r.length = 2) (h20 : P.length < 20) (w : World) (hb : Below w1.heap.size w1 w) (hok : OwnR w w1.heap.size w.heap.size (.slice A1 P.length c1) P) :
    Calls Tryz.prog 173 #[.slice A1 P.length c1, .func (.func 174) #[] #[.pointer (some ⟨g, 0, none⟩)]] w fun e w' =>
      (∃ v, e = .returned v) ∧ ∃ Zs : List ZE, Zs.map Prod.snd = sortedR (keyR vs) P ∧ w'.ownsRow w1.heap.size 27 1 (.slice A1 P.length c1) P.length (Zs.map Prod.fst) ∧ RowsZ w' w1.heap.size w'.heap.size Zs ∧ Below w1.heap.size w1 w' := by
  obtain ⟨us, ha1, ha2, hV⟩ := ownR_iff.1 hok
  have hul := hV.1
  have hZ := rowsZ_of hV
  have zf := zip_fst hul
  have zs := zip_snd hul
  have zl : (us.zip P).length = P.length := by rw [List.length_zip]; omega
  have hso := sortedR_of (kf := keyR vs) (Z := us.zip P)
  rw [zs, zl] at hso
  have hpm := sortK_all (fun p => keyR vs p.2) (us.zip P)
  rw [zl] at hpm
  have hmem : ∀ p ∈ us.zip P, p.2 ∈ P := fun p hp => by rw [← zs]; exact List.mem_map_of_mem hp
  rw [← zf] at ha1
  rcases Nat.eq_zero_or_pos P.length with h0 | h0
  · obtain rfl := List.eq_nil_of_length_eq_zero h0
    refine (sortStableZ_nil A1 c1 174 _ w).mono ?_
    rintro e w2 ⟨hv, rfl⟩
    refine ⟨hv, [], ?_, ?_, ⟨fun p hp => (by simp at hp), List.Pairwise.nil⟩, hb⟩
    · rw [← hso]; rfl
    · have e : us.zip ([] : List (List Int)) = [] := by simp
      rw [e] at ha1; exact ha1
  · obtain ⟨gp, rfl⟩ := ownsRow_some' ha1 h0
    have hge : w1.heap.size ≤ gp := by have := (World.ownsRow.lt ha1 gp rfl).1; exact this
    refine (sortStableZ_any gp c1 P.length w1.heap.size 174 #[.pointer (some ⟨g, 0, none⟩)] (fun p => keyR vs p.2) (us.zip P) w ha1 zl h0 h20 (fun p hp => ?_) (fun p hp => ?_) (enters Tryz.func174 (by kernel_rfl) rfl) (fun p hp q hq W hW => ?_)).mono ?_
    · obtain ⟨A', c', e, _⟩ := (hZ.1 p hp).len
      exact ⟨_, _, _, e⟩
    · have := margin_bd F (ix p.2 0) (ix p.2 1)
      show -100000 ≤ keyR vs p.2 ∧ keyR vs p.2 ≤ 100000
      unfold keyR; omega
    · have hZW := hZ.only ha1 hW
      obtain ⟨Ap, cp, ep, _⟩ := (hZ.1 p hp).len
      obtain ⟨Aq, cq, eq, _⟩ := (hZ.1 q hq).len
      have op := hZW.1 p hp
      have oq := hZW.1 q hq
      rw [ep] at op ⊢
      rw [eq] at oq ⊢
      have hbW := hb.trans (hW.toBelow hge hb.size)
      exact lockedCmp m A n c g vs Ap Aq cp cq p.2 q.2 W (h.below hbW) F (cell_carry hbW x0) (cell_carry hbW x1) op.at_ (hP _ (hmem p hp)) oq.at_ (hP _ (hmem q hq))
    · rintro e w2 ⟨hv, ho2, hon⟩
      have hz2 := hZ.only ha1 hon
      refine ⟨hv, _, hso, ho2, ?_, hb.trans (hon.toBelow hge hb.size)⟩
      have := hz2.perm hpm
      exact ⟨fun q hq => (this.1 q hq).mono (Nat.le_refl _) hon.size, this.2⟩
set_option maxRecDepth 100000 in
set_option maxHeartbeats 2000000 in
theorem implLockedPairs (m : Int) (A : Option Addr) (n c : Nat) (vs : List Vt) (w : World) (h : VotesAt w A n vs) (hn : n ≤ 1048576) (hx : ∀ v ∈ vs, v.r.length ≤ 1048576) (hp : profOk m vs = true) :
    Calls Tryz.prog 117 #[.agg #[.int .i64 m, .slice A n c]] w fun e w' => ∃ A' c', e = .returned (.slice A' (lockedP vs m.toNat).length c') ∧ RowsAt w' A' (lockedP vs m.toNat).length (lockedP vs m.toNat) ∧ Below w.heap.size w w' := by
  obtain rfl := h.len
  have hB := alloc_below w (.cells #[.int .i64 m, .slice A vs.length c] 24)
  obtain ⟨x0, x1⟩ := PBox.new w m A vs.length c 24 rfl
  replace h := h.below hB
  generalize hw0 : w.alloc (.cells #[.int .i64 m, .slice A vs.length c] 24) = w0 at *
  have K := Lib.hid (implProfileOk m A vs.length c vs _ h hn hx)
  rw [hp] at K
  have F := Lib.hid (pf_of hp)
  obtain ⟨M, rfl⟩ : ∃ M : Nat, m = (M : Int) := ⟨m.toNat, by have := F.out.m1; omega⟩
  have M5 : M ≤ 5 := by have := F.out.m5; omega
  have M1 : 1 ≤ M := by have := F.out.m1; omega
  rw [Int.toNat_natCast]
  have PL := pairs_lt vs M5
  have CL := Lib.hid (fun f i => @collTo_len f pairG M (by omega) i)
  have CL2 := Lib.hid (fun f g => coll_len f g)
  have HP : Hid (pairsOf vs M = collTo (fun (a b : Nat) => beatsP vs (a : Int) (b : Int)) pairG M M) := rfl
  obtain ⟨f, hf⟩ : ∃ f : Nat → Nat → Bool, f = fun (a b : Nat) => beatsP vs (a : Int) (b : Int) := ⟨_, rfl⟩
  have HF : Hid (∀ a b, f a b = beatsP vs (a : Int) (b : Int)) := fun a b => by rw [hf]
  rw [← hf] at HP
  clear hx hp hf
  go_enter Tryz.func117, Tryz.ntmps117
  go_wp2_with fail
  (with_reducible refine (K.out).mono ?_)
  rintro e w1 ⟨rfl, b1⟩
  replace x0 := cell_carry b1 x0
  replace x1 := cell_carry b1 x1
  replace h := h.below b1
  replace hB := hB.trans (b1.mono hB.size)
  clear b1
  clear K hw0
  have z0 := hB.size
  have x0' := x0
  go_wp2
  go_loopw [3, 4, 14] (fun v _ i wr => ∃ (k : Nat) (A' : Option Addr) (c' : Nat), k ≤ M ∧ i = .int .i64 k ∧ v = .slice A' (collTo f pairG M k).length c' ∧ OwnR wr w1.heap.size wr.heap.size (.slice A' (collTo f pairG M k).length c') (collTo f pairG M k) ∧ Below w1.heap.size w1 wr) (fun _ _ i _ => M - (intOf i).toNat)
  case atStart => exact ⟨0, none, 0, Nat.zero_le _, rfl, rfl, OwnR.nil _ _ _, Below.refl _ _⟩
  case round =>
    obtain ⟨k, A1, c1, hk, rfl, rfl, hok, hbr⟩ := hrel
    obtain ⟨wo, rfl⟩ : ∃ wo, wo = wr := ⟨_, rfl⟩
    clear x0'
    by_cases hlt : k < M
    · have x0' := cell_carry hbr x0
      have e0 : collTo f pairG M k ++ coll (f k) (pairG k) 0 = collTo f pairG M k := List.append_nil _
      have HZ : Hid (collTo f pairG M (k + 1) = collTo f pairG M k ++ coll (f k) (pairG k) M) := rfl
      have cl := CL.out f k
      rw [← e0] at hok
      generalize hL : collTo f pairG M k = L at *
      have e1 : L.length = (L ++ coll (f k) (pairG k) 0).length := by rw [e0]
      rw [e1]
      go_wp2
      go_loopw [3, 5, 19] (fun v _ i wr => ∃ (j : Nat) (A' : Option Addr) (c' : Nat), j ≤ M ∧ i = .int .i64 j ∧ v = .slice A' (L ++ coll (f k) (pairG k) j).length c' ∧ OwnR wr w1.heap.size wr.heap.size (.slice A' (L ++ coll (f k) (pairG k) j).length c') (L ++ coll (f k) (pairG k) j) ∧ Below w1.heap.size w1 wr) (fun _ _ i _ => M - (intOf i).toNat)
      case atStart => exact ⟨0, A1, c1, Nat.zero_le _, rfl, rfl, hok, hbr⟩
      case round =>
        clear hok hbr x0' e0 e1
        obtain ⟨j, A2, c2, hj, rfl, rfl, hoj, hbj⟩ := hrel
        by_cases hlj : j < M
        · have x0' := cell_carry hbj x0
          have x1' := cell_carry hbj x1
          have KB := Lib.hid (implBeats (M : Int) A vs.length c vs (k : Int) (j : Int) wr (h.below hbj) F.out)
          rw [← HF.out] at KB
          have cl2 := CL2.out (f k) (pairG k) j
          have tl : (L ++ coll (f k) (pairG k) j).length ≤ 100 := by rw [List.length_append]; omega
          have HS : Hid (L ++ coll (f k) (pairG k) (j + 1) = if f k j then (L ++ coll (f k) (pairG k) j) ++ [[(k : Int), (j : Int)]] else L ++ coll (f k) (pairG k) j) := by
            show _ = _
            rw [coll]; split
            · rw [List.append_assoc]; rfl
            · rfl
          generalize L ++ coll (f k) (pairG k) j = T at *
          generalize f k j = q at *
          cases q
          · rw [if_neg (by simp)] at HS
            go_wp2_with fail
            (with_reducible refine KB.out.mono ?_)
            rintro e w5 ⟨rfl, b5⟩
            have z5 := b5.size
            have ho5 := (hoj.belowW b5).mono (Nat.le_refl _) z5
            have hb5 := hbj.trans (b5.mono hbj.size)
            clear hoj hbj b5 KB
            go_wp2
            go_roundw
            case rel => exact ⟨j + 1, A2, c2, by omega, by go_num, by rw [HS.out], by rw [HS.out]; exact ho5, hb5⟩
            case measure => simp [intOf]; omega
          · rw [if_pos rfl] at HS
            go_wp2_with fail
            (with_reducible refine KB.out.mono ?_)
            rintro e w5 ⟨rfl, b5⟩
            have z5 := b5.size
            have o5 := (hoj.belowW b5).mono (Nat.le_refl _) z5
            have hb5 := hbj.trans (b5.mono hbj.size)
            have zz := hb5.size
            clear hoj hbj b5 KB
            go_wp2_with (at_builtin; refine wpList_append_row _ rfl _ _ rfl w1.heap.size w5.heap.size T.length _ _ _ rfl ((o5.alloc _).alloc _) (some ⟨w5.heap.size, 0, none⟩) 2 2 [(k : Int), (j : Int)] w5.heap.size (w5.heap.size + 1) ((OwnI.lit2 w5 (k : Int) (j : Int)).alloc _) (Nat.le_refl _) (by simp) _ 1 rfl (new_cell _ _ _ (by simp)) (by omega) zz (by simp; omega) ?_)
            intro A6 c6 w6 ho6 hon
            have hb6 := ((hb5.alloc zz (.cells #[.int .i64 (k : Int), .int .i64 (j : Int)] 3)).alloc (by simp; omega) (.cells #[.slice (some ⟨w5.heap.size, 0, none⟩) 2 2] 27)).trans (hon.toBelow (Nat.le_refl _) (by simp; omega))
            have el : T.length + 1 = (T ++ [[(k : Int), (j : Int)]]).length := by simp
            rw [el] at ho6
            have EL := Lib.hid el
            clear hon el o5 hb5
            go_wp2
            go_roundw
            case rel => exact ⟨j + 1, A6, c6, by omega, by go_num, by rw [HS.out, ← EL.out], by rw [HS.out]; exact ho6, hb6⟩
            case measure => simp [intOf]; omega
        · obtain rfl : j = M := by omega
          rw [← HZ.out] at hoj ⊢
          go_wp2
          go_roundw
          case rel => exact ⟨k + 1, A2, c2, by omega, by go_num, rfl, hoj, hbj⟩
          case measure => simp [intOf]; omega
    · obtain rfl : k = M := by omega
      rw [← HP.out] at hok ⊢
      clear HP CL CL2 HF
      have PM := Lib.hid (fun r (hr : r ∈ pairsOf vs k) => (pairsOf_mem hr).1)
      have HL : Hid (lockedP vs k = lockR (sortedR (keyR vs) (pairsOf vs k)) (sortedR (keyR vs) (pairsOf vs k)).length) := rfl
      have HLM := Lib.hid (fun r (hr : r ∈ lockedP vs k) => (lockedP_mem hr).1)
      have SM := Lib.hid (fun r (hr : r ∈ sortedR (keyR vs) (pairsOf vs k)) => (pairsOf_mem (sortedR_mem hr)).1)
      have KS := Lib.hid (sortPairs_any (k : Int) A vs.length c w.heap.size vs w1 h F.out x0 x1 A1 c1 (pairsOf vs k) PM.out PL wo hbr hok)
      have SL := sortedR_len (keyR vs) (pairsOf vs k)
      generalize sortedR (keyR vs) (pairsOf vs k) = S at *
      generalize pairsOf vs k = P at *
      go_wp2_with fail
      (with_reducible refine KS.out.mono ?_)
      rintro e w2 ⟨⟨v, rfl⟩, Zs, hZs, ho2, hr2, hb2⟩
      clear KS hok hbr
      have zl : Zs.length = P.length := by have := ho2.1; simpa using this
      have hB2 := hB.trans (hb2.mono hB.size)
      have HZS := Lib.hid hZs
      clear hZs hlt
      have KA := Lib.hid (fun i (hi : i ≤ Zs.length) => (show Acyc ((lockZ Zs i).map Prod.snd) by rw [lockZ_snd]; exact lockR_acyc _ _))
      have SB := Lib.hid (fun i (hi : i ≤ Zs.length) => (lockZ_sub Zs i hi).trans (List.take_sublist i Zs))
      have SM2 := Lib.hid (fun p (hp : p ∈ Zs) => SM.out p.2 (by rw [← HZS.out]; exact List.mem_map_of_mem hp))
      have HEND : Hid ((lockZ Zs Zs.length).map Prod.snd = lockedP vs k) := by show _ = _; rw [lockZ_snd, HZS.out, HL.out, SL, zl]
      clear HL HLM PM x0 x1 h F hb2 hB SM
      have pl := PL
      go_wp2
      go_loopw [6, 8, 39] (fun v _ i wr => ∃ (q : Nat) (A' : Option Addr) (c' : Nat), q ≤ P.length ∧ i = .int .i64 q ∧ v = .slice A' (lockZ Zs q).length c' ∧ wr.ownsRow w2.heap.size 27 1 (.slice A' (lockZ Zs q).length c') (lockZ Zs q).length ((lockZ Zs q).map Prod.fst) ∧ Below w2.heap.size w2 wr) (fun _ _ i _ => P.length - (intOf i).toNat)
      case atStart => exact ⟨0, none, 0, Nat.zero_le _, rfl, rfl, World.ownsRow_nil _ _ _ _, Below.refl _ _⟩
      case round =>
        obtain ⟨q, A3, c3, hq, rfl, rfl, hown, hb⟩ := hrel
        have kl : (lockZ Zs q).length ≤ 20 := by have := (lockZ_sub Zs q (by omega)).length_le; rw [List.length_take] at this; omega
        have hr3 := hr2.belowW hb
        by_cases hlq : q < P.length
        · obtain ⟨gp, rfl⟩ := ownsRow_some' ho2 (by omega)
          have hcq := World.ownsRow.cellAt ho2 q (by omega)
          rw [gz_map (by omega)] at hcq
          replace hcq := cell_carry hb hcq
          have hm := gz_mem (S := Zs) (j := q) (by omega)
          have oq := hr3.1 _ hm
          have l2 := SM2.out _ hm
          have HRA := rowsAt_of hown (hr3.sub (SB.out q (by omega)))
          have KL := Lib.hid (fun (L : Later wr) => L.call (implLeads (KA.out q (by omega)) (fun r hr => by
            obtain ⟨p, hp, rfl⟩ := List.mem_map.1 hr
            exact SM2.out p ((SB.out q (by omega)).subset hp)) A3 (lockZ Zs q).length c3 (by omega) (ix (gz Zs q).2 1) (ix (gz Zs q).2 0) L.W (HRA.below L.h)))
          have HS : Hid (lockZ Zs (q + 1) = if leadC ((lockZ Zs q).map Prod.snd) (ix (gz Zs q).2 1) (ix (gz Zs q).2 0) then lockZ Zs q else lockZ Zs q ++ [gz Zs q]) := rfl
          have HSUB : Hid ((lockZ Zs q ++ [gz Zs q]).Sublist Zs) := by
            have h1 := (lockZ_sub Zs q (by omega)).append (List.Sublist.refl [gz Zs q])
            rw [← take_gz (by omega)] at h1
            exact h1.trans (List.take_sublist _ _)
          generalize leadC ((lockZ Zs q).map Prod.snd) (ix (gz Zs q).2 1) (ix (gz Zs q).2 0) = bl at *
          generalize gz Zs q = x at *
          generalize lockZ Zs q = Kz at *
          obtain ⟨xv, xr⟩ := x
          obtain ⟨Ax, cx, ex, hcx⟩ := oq.len
          simp only at ex l2
          subst ex
          have oq2 := oq.at_
          obtain ⟨bx, ox, rfl, _, hcx2⟩ := oq2.at_ (show 0 < xr.length by omega)
          have d0 := hcx2 0 (by omega)
          have d1 := hcx2 1 (by omega)
          rw [Nat.add_zero] at d0
          have q0 : ∀ L : Later wr, L.W.cell? ⟨bx, ox, none⟩ = some (.int .i64 (ix xr 0)) := fun L => L.cell d0
          have q1 : ∀ L : Later wr, L.W.cell? ⟨bx, ox + 1, none⟩ = some (.int .i64 (ix xr 1)) := fun L => L.cell d1
          have i0 : (0 : Int) < (xr.length : Int) := by omega
          have i1 : (1 : Int) < (xr.length : Int) := by omega
          clear l2
          clear HRA d0 d1 hcx2 oq2 oq hr3 hm
          simp only at KL HS
          generalize ix xr 0 = X0 at *
          generalize ix xr 1 = X1 at *
          cases bl
          · rw [if_neg (by simp)] at HS
            go_upto_region 19 with fail
            refine wp_region_later (by kernel_rfl) (by kernel_rfl) ?_
            repeat (go_big_quiet_step (first | (with_reducible exact KL.out _)))
            (refine wpQuiet_nil ?_; rintro wl ⟨L_, hwl_⟩; have hbl := L_.h; rw [← hwl_] at hbl; clear hwl_ L_)
            have ho5 := ownsRow_below hown hbl
            have hb5 := hb.trans (hbl.mono hb.size)
            have zb := hb5.size
            clear KL q0 q1 hcq hbl hown hb
            have b6 := alloc_below wl (.cells #[.slice (some ⟨bx, ox, none⟩) xr.length cx] 27)
            have hb6 := hb5.trans (b6.mono hb5.size)
            have ho6 := ownsRow_below ho5 b6
            have HV : Hid (RowsV (wl.alloc (.cells #[.slice (some ⟨bx, ox, none⟩) xr.length cx] 27)) w1.heap.size w2.heap.size (Kz.map Prod.fst ++ [.slice (some ⟨bx, ox, none⟩) xr.length cx]) ((Kz ++ [((.slice (some ⟨bx, ox, none⟩) xr.length cx : Value), xr)]).map Prod.snd)) := by
              have h1 := ((hr2.belowW hb6).sub HSUB.out).toV
              rw [List.map_append (f := Prod.fst)] at h1
              exact h1
            have HC : Hid (∀ j, j < 1 → ∃ b o, (some ⟨wl.heap.size, 0, none⟩ : Option Addr) = some ⟨b, o, none⟩ ∧ (wl.alloc (.cells #[.slice (some ⟨bx, ox, none⟩) xr.length cx] 27)).cell? ⟨b, o + j, none⟩ = [Value.slice (some ⟨bx, ox, none⟩) xr.length cx][j]?) := by
              intro j hj
              obtain rfl : j = 0 := by omega
              exact ⟨wl.heap.size, 0, rfl, new_cell _ _ _ rfl⟩
            clear b6 ho5
            go_wp2_with (at_builtin; refine wpList_append_rowsV _ rfl _ _ rfl w2.heap.size Kz.length c3 A3 (Kz.map Prod.fst) rfl ho6 (some ⟨wl.heap.size, 0, none⟩) 1 1 [Value.slice (some ⟨bx, ox, none⟩) xr.length cx] _ w1.heap.size w2.heap.size rfl HC.out HV.out rfl (by omega) (by simp; omega) ?_)
            intro A9 c9 w9 o9 v9 g9 hat9
            have hb9 := below_of_below hb6 g9 (fun j e => (World.ownsRow.lt ho6 j e).1)
            have el : Kz.length + 1 = (Kz ++ [((.slice (some ⟨bx, ox, none⟩) xr.length cx : Value), xr)]).length := by simp
            have o9' : w9.ownsRow w2.heap.size 27 1 (.slice A9 (Kz ++ [((.slice (some ⟨bx, ox, none⟩) xr.length cx : Value), xr)]).length c9) (Kz ++ [((.slice (some ⟨bx, ox, none⟩) xr.length cx : Value), xr)]).length ((Kz ++ [((.slice (some ⟨bx, ox, none⟩) xr.length cx : Value), xr)]).map Prod.fst) := by
              rw [← el, List.map_append]; exact o9
            have EL := Lib.hid el
            clear el o9 v9 g9 hat9 HC HV ho6 hb6 hb5
            go_wp2
            go_roundw
            case rel => exact ⟨q + 1, A9, c9, by omega, by go_num, by rw [HS.out, ← EL.out], by rw [HS.out]; exact o9', hb9⟩
            case measure => simp [intOf]; omega
          · rw [if_pos rfl] at HS
            go_upto_region 19 with fail
            refine wp_region_later (by kernel_rfl) (by kernel_rfl) ?_
            repeat (go_big_quiet_step (first | (with_reducible exact KL.out _)))
            (refine wpQuiet_nil ?_; rintro wl ⟨L_, hwl_⟩; have hbl := L_.h; rw [← hwl_] at hbl; clear hwl_ L_)
            have ho5 := ownsRow_below hown hbl
            have hb5 := hb.trans (hbl.mono hb.size)
            clear KL q0 q1 hcq hbl hown hb
            go_wp2
            go_roundw
            case rel => exact ⟨q + 1, A3, c3, by omega, by go_num, by rw [HS.out], by rw [HS.out]; exact ho5, hb5⟩
            case measure => simp [intOf]; omega
        · obtain rfl : q = P.length := by omega
          have HRA := rowsAt_of hown (hr3.sub (SB.out _ (by omega)))
          have hB5 := hB2.trans (hb.mono hB2.size)
          have e1 := HEND.out
          rw [zl] at e1
          rw [e1] at HRA
          have e2 : (lockZ Zs P.length).length = (lockedP vs k).length := by rw [← e1, List.length_map]
          rw [e2] at HRA ⊢
          clear e1 e2 hr3
          go_wp2
          go_ret
          exact ⟨_, _, rfl, HRA, hB5⟩
end Go.Proofs.YtaanppihgldeaaaGreatDoor
