/- The program's range over all roundings of a table: the iterator keeps its word (RFC.tpl). -/
import Derived.Test.YtefppihanblhmaaFillW
import Derived.Test.YtefppihanblhmaaCopy
import Derived.Deep.DeepCutAuto
import Derived.Laws.EntriesVeiled
import Derived.Test.YtefppihanblhmaaTables
namespace Go.Proofs.Ytefppihanblhmaa
set_option linter.unusedVariables false
open Go.RowKit

def allR (t : List (List Int)) : List (List Int) := if tableOk t then goF t (rx t 0).length t.length (t.length * (rx t 0).length) [] else []
theorem allR_no {t : List (List Int)} (h : tableOk t = false) : allR t = [] := by unfold allR; rw [h]; rfl
theorem allR_yes {t : List (List Int)} (h : tableOk t = true) : allR t = goF t (rx t 0).length t.length (t.length * (rx t 0).length) [] := by unfold allR; rw [h]; rfl
theorem allR_len (t : List (List Int)) : (allR t).length ≤ 65536 := by
  cases h : tableOk t
  · rw [allR_no h]; simp
  · rw [allR_yes h]
    have F := tab_facts h
    have h1 := goF_len t (rx t 0).length t.length (t.length * (rx t 0).length) []
    have h2 : t.length * (rx t 0).length ≤ 4 * 4 := Nat.mul_le_mul F.r4 F.c4
    have h3 : 2 ^ (t.length * (rx t 0).length) ≤ 2 ^ 16 := Nat.pow_le_pow_right (by omega) h2
    omega
def toldT (t : List (List Int)) (x : Value × List Int) (W : World) : Prop := toldF (rx t 0).length t.length x W
def allS (t : List (List Int)) (xs : List (Value × List Int)) : Prop := ∃ v : Value, xs = (allR t).map fun m => (v, m)
def allSp (t : List (List Int)) (xs : List (Value × List Int)) : Prop := ∃ (v : Value) (q : List (List Int)), q <+: allR t ∧ q ≠ [] ∧ xs = q.map fun m => (v, m)
theorem tab_mem {t : List (List Int)} {c r : Nat} (F : TabF t c r) {x : Int} (h : x ∈ t.flatten) : 0 ≤ x ∧ x ≤ 1000 := by
  obtain ⟨xs, h1, h2⟩ := List.mem_flatten.1 h
  obtain ⟨i, hi, rfl⟩ := List.getElem_of_mem h1
  obtain ⟨k, hk, rfl⟩ := List.getElem_of_mem h2
  have hr := F.row i (by rw [← F.rl]; exact hi)
  rw [rx_lt hi] at hr
  have := hr.2 k (by rw [← hr.1]; exact hk)
  rw [ix_lt hk] at this
  exact this
theorem tab_small {t : List (List Int)} {c r : Nat} (F : TabF t c r) : ∀ xs ∈ t, xs.length = c := fun xs hxs => by
  obtain ⟨q, hq, rfl⟩ := List.getElem_of_mem hxs
  have := (F.row q (by rw [← F.rl]; exact hq)).1
  rw [rx_lt hq] at this
  exact this
set_option maxRecDepth 100000 in
set_option maxHeartbeats 4000000 in
theorem roundings_seq (t : List (List Int)) (w0 w : World) (bt k0 : Nat) (A : Option Addr) (n cA : Nat) (hn : n ≤ 1048576) (hx : ∀ xs ∈ t, xs.length ≤ 1048576) (hb0 : Below w0.heap.size w0 w) (hr : RowsAt w0 A n t)
    (hc : w.cell? ⟨bt, 0, none⟩ = some (.slice A n cA)) (hk0 : w0.heap.size ≤ k0) (hk1 : k0 < w.heap.size) (hne : bt ≠ k0) :
    SeqC k0 Try.prog 30 #[.pointer (some ⟨bt, 0, none⟩)] (fun x : Value × List Int => #[x.1]) (toldT t) (allS t) (allSp t) 65536 w := by
  intro l J Jx W hbW hJ hJx hY h0
  obtain rfl := hr.len
  have ct := cell_carry hbW hc
  have hrW := hr.below (hb0.trans (hbW.mono hb0.size))
  have hbt := cell_lt hc
  have HX := Lib.hid hx; clear hx
  have ha1 := (Below.refl W.heap.size W).alloc (Nat.le_refl _) (.cells #[.func (.yield l) #[] #[]] 29)
  have cy := new_cell W (.func (.yield l) #[] #[]) 29 rfl
  have ct1 := cell_carry ha1 ct
  have hz1 : (W.alloc (.cells #[.func (.yield l) #[] #[]] 29)).heap.size = W.heap.size + 1 := by simp
  have hJ1 := hJ _ _ _ h0 ha1
  go_enter Try.func30, Try.ntmps30
  go_wp2_with fail
  generalize W.alloc (.cells #[.func (.yield l) #[] #[]] 29) = W1 at *
  (with_reducible refine (implTableOk A _ cA t W1 (hrW.below ha1) hn HX.out).mono ?_)
  rintro e W2 ⟨rfl, hb2⟩
  have cy2 := cell_carry hb2 cy
  have ct2 := cell_carry hb2 ct1
  have hJ2 := hJ _ _ _ hJ1 (hb2.mono (by omega))
  have hz2 := hb2.size
  have hB2 := ha1.trans (hb2.mono (by omega))
  have hrW2 := hrW.below hB2
  clear cy ct1 hJ1 ct ha1 hb2 h0
  cases htk : tableOk t
  · have HR := Lib.hid (allR_no htk)
    clear htk
    go_wp2
    refine bodyPost_ret (results_none rfl _ _ _) rfl ?_
    exact ⟨⟨_, rfl⟩, .inl ⟨[], ⟨.nilFunc, by rw [HR.out]; rfl⟩, hJ2⟩⟩
  · have HR := Lib.hid (allR_yes htk)
    have F := tab_facts htk
    have hr1 := F.r1
    clear htk
    go_wp2_with fail
    (with_reducible refine (copyRows_any A _ cA t W2 hrW2 hn HX.out).mono ?_)
    rintro e W3 ⟨A', c', rfl, o3, b3⟩
    obtain ⟨g, rfl, g1, g2, g3⟩ := o3.head hr1
    have cy3 := cell_carry b3 cy2
    have ct3 := cell_carry b3 ct2
    have hJ3 := hJ _ _ _ hJ2 (b3.mono (by omega))
    have hz3 := b3.size
    have hB3 := hB2.trans (b3.mono (by omega))
    have hrW3 := hrW.below hB3
    obtain ⟨bA, oA, A0, d0, eA, hAl, hckA, _, hin0⟩ := hrW3.at_ hr1
    rw [Nat.add_zero] at hckA
    rw [eA] at ct3
    have ha4 := (Below.refl W3.heap.size W3).alloc (Nat.le_refl _) (.cells #[.slice (some ⟨g, 0, none⟩) t.length c'] 23)
    have cr4 := new_cell W3 (.slice (some ⟨g, 0, none⟩) t.length c') 23 rfl
    have cy4 := cell_carry ha4 cy3
    have ct4 := cell_carry ha4 ct3
    have hckA4 := cell_carry ha4 hckA
    have o4 := o3.belowW ha4
    have hJ4 := hJ _ _ _ hJ3 (ha4.mono (by omega))
    have hz4 : (W3.alloc (.cells #[.slice (some ⟨g, 0, none⟩) t.length c'] 23)).heap.size = W3.heap.size + 1 := by simp
    have hB4 := hB3.trans (ha4.mono (by omega))
    clear cy2 ct2 hJ2 b3 cy3 ct3 hckA o3 hJ3 hB3 ha4
    go_upto_region 4 with fail
    generalize W3.alloc (.cells #[.slice (some ⟨g, 0, none⟩) t.length c'] 23) = W4 at *
    have ha5 := (Below.refl W4.heap.size W4).alloc (Nat.le_refl _) (.cells #[.int .i64 ((rx t 0).length : Int)] 3)
    have cw5 := new_cell W4 (.int .i64 ((rx t 0).length : Int)) 3 hz4.symm
    have cr5 := cell_carry ha5 cr4
    have cy5 := cell_carry ha5 cy4
    have ct5 := cell_carry ha5 ct4
    have o5 := o4.belowW ha5
    have hJ5 := hJ _ _ _ hJ4 (ha5.mono (by omega))
    have hz5 : (W4.alloc (.cells #[.int .i64 ((rx t 0).length : Int)] 3)).heap.size = W3.heap.size + 2 := by simp [hz4]
    have hB5 := hB4.trans (ha5.mono (by omega))
    clear cr4 cy4 ct4 o4 hJ4 hB4 ha5
    generalize W4.alloc (.cells #[.int .i64 ((rx t 0).length : Int)] 3) = W5 at *
    obtain ⟨fv, hfv⟩ : ∃ fv : Value, fv = .func (.func 31) #[] #[.pointer (some ⟨W3.heap.size + 1, 0, none⟩), .pointer (some ⟨bt, 0, none⟩), .pointer (some ⟨W3.heap.size, 0, none⟩), .pointer (some ⟨W.heap.size, 0, none⟩), .pointer (some ⟨W3.heap.size + 2, 0, none⟩)] := ⟨_, rfl⟩
    have n6 := heap_alloc_new W5 (.cells #[Value.nilFunc] 48)
    have c6 := new_cell W5 .nilFunc 48 hz5.symm
    have f6 := new_free W5 #[.nilFunc] 48 hz5.symm 0
    have ha6 := ((Below.refl W5.heap.size W5).alloc (Nat.le_refl _) (.cells #[.nilFunc] 48)).setCell (p := ⟨W3.heap.size + 2, 0, none⟩) (by show _ ≤ W3.heap.size + 2; omega) fv
    have cf6 : ((W5.alloc (.cells #[.nilFunc] 48)).setCell ⟨W3.heap.size + 2, 0, none⟩ fv).cell? ⟨W3.heap.size + 2, 0, none⟩ = some fv := by
      rw [hz5] at n6
      rw [cell_of_row _ _ 0 #[fv] 48 (0, 0) (one_setCell n6)]; rfl
    clear n6
    have cw6 := cell_carry ha6 cw5
    have cr6 := cell_carry ha6 cr5
    have cy6 := cell_carry ha6 cy5
    have ct6 := cell_carry ha6 ct5
    have o6 := o5.belowW ha6
    have hJ6 := hJ _ _ _ hJ5 (ha6.mono (by omega))
    have hz6 := ha6.size
    have hB6 := hB5.trans (ha6.mono (by omega))
    clear cr5 cy5 ct5 cw5 o5 hJ5 hB5 ha6
    go_upto_region 5 with fail
    generalize W5.alloc (.cells #[.nilFunc] 48) = V5 at *
    subst hfv
    go_wp2_with fail
    generalize V5.setCell ⟨W3.heap.size + 2, 0, none⟩ (.func (.func 31) #[] #[.pointer (some ⟨W3.heap.size + 1, 0, none⟩), .pointer (some ⟨bt, 0, none⟩), .pointer (some ⟨W3.heap.size, 0, none⟩), .pointer (some ⟨W.heap.size, 0, none⟩), .pointer (some ⟨W3.heap.size + 2, 0, none⟩)]) = W6 at *
    have hsz := hbW.size
    have hfl := flat_len (c := (rx t 0).length) (tab_small F)
    have hro := flat_rows (c := (rx t 0).length) (tab_small F)
    have hrp := flat_rows (c := (rx t 0).length) (tab_small F)
    let b : FillB := { c := (rx t 0).length, r := t.length, A := some ⟨bA, oA, none⟩, cA := cA, gR := g, cR := c', bw := W3.heap.size + 1, bt := bt, br := W3.heap.size, bY := W.heap.size, bf := W3.heap.size + 2, l := l, k0 := k0, lo := W2.heap.size, hi := W3.heap.size }
    have C : FillC t w0 b := by
      have eA2 := eA
      subst eA2
      refine ⟨F, hr, ?_, ?_, ?_, ?_, ?_, hk0, ?_, ?_, ?_⟩ <;> simp only [b, FillB.out] <;> have := hb0.size <;> omega
    have S : FillAt t w0 b W6 t.flatten := by
      refine ⟨hb0.trans ((hbW.mono hb0.size).trans (hB6.mono (by have := hb0.size; omega))), cw6, ct6, cr6, cy6, cf6, ?_, hfl, fun x hx => ?_, ?_⟩
      · show OwnR W6 W2.heap.size W3.heap.size _ (rowsF (rx t 0).length t.flatten t.length)
        rw [hro]; exact o6
      · have := tab_mem F hx; omega
      · show W3.heap.size ≤ W6.heap.size; omega
    have hgl := allR_len t
    rw [HR.out] at hgl
    have K := fill_any C W.heap.size 65536 (by show W.heap.size ≤ W2.heap.size; omega) J Jx hJ hJx hY (t.length * (rx t 0).length) 0 t.flatten [] W6 (by show 0 + _ = _; rw [Nat.zero_add]) S (by omega) hJ6 (by rw [List.take_zero]; simpa using hgl)
    rw [List.take_zero] at K
    refine K.mono ?_
    unfold fillPost
    rw [show goF t b.c b.r (t.length * (rx t 0).length) [] = allR t from HR.out.symm]
    clear_value b
    rintro e W7 (⟨rfl, _, _, hj7⟩ | ⟨rfl, q, hq, hq0, hx7⟩)
    · go_wp2
      go_end0
      exact ⟨⟨_, rfl⟩, .inl ⟨_, ⟨_, rfl⟩, hj7⟩⟩
    · go_wp2
      go_end0
      exact ⟨⟨_, rfl⟩, .inr ⟨_, ⟨_, q, hq, hq0, rfl⟩, hx7⟩⟩
end Go.Proofs.Ytefppihanblhmaa
