/- The reference's count of fair lists. -/
import Derived.Test.YtmmmgppfmcklpaaOdoC
import Derived.Test.YtmmmgppfmcklpaaFair
import Derived.Deep.DeepCutAuto
namespace Go.Proofs.Ytmmmgppfmcklpaa
set_option linter.unusedVariables false
open Go.RowKit

def toI (l : List Nat) : List Int := l.map fun (x : Nat) => (x : Int)
theorem toI_append (l : List Nat) (x : Nat) : toI (l ++ [x]) = toI l ++ [(x : Int)] := by simp [toI]
theorem toI_len (l : List Nat) : (toI l).length = l.length := by simp [toI]
theorem toI_sum : ∀ l : List Nat, lsum (toI l) = (l.sum : Int)
  | [] => rfl
  | x :: l => by
    show (x : Int) + lsum (toI l) = _
    rw [toI_sum l, List.sum_cons]; omega
theorem le_sum : ∀ {l : List Nat} {x : Nat}, x ∈ l → x ≤ l.sum
  | y :: l, x, h => by
    rw [List.sum_cons]
    rcases List.mem_cons.1 h with rfl | h
    · omega
    · have := le_sum h; omega
theorem full_ok {xs : List Int} {l : List Nat} (hc : countsOk xs = true) (hl : l.length = xs.length) (hs : l.sum ≤ 20) : seatsOk xs (toI l) = true := by
  unfold seatsOk
  rw [Bool.and_eq_true, Bool.and_eq_true, Bool.and_eq_true, decide_eq_true_eq, List.all_eq_true, decide_eq_true_eq, toI_sum, toI_len, hl]
  refine ⟨⟨⟨hc, rfl⟩, fun y hy => ?_⟩, by omega⟩
  obtain ⟨x, hx, rfl⟩ := List.mem_map.1 hy
  have := le_sum hx
  rw [inB_iff]; omega
theorem sum_le {f : Nat → Nat} {b : Nat} : ∀ {l : List Nat}, (∀ x ∈ l, f x ≤ b) → (l.map f).sum ≤ l.length * b
  | [], _ => by simp
  | x :: l, h => by
    have h1 := h x (by simp)
    have h2 := sum_le (l := l) fun y hy => h y (by simp [hy])
    rw [List.map_cons, List.sum_cons, List.length_cons, Nat.add_mul, Nat.one_mul]; omega
theorem cntG_le (ok : List Nat → Bool) : ∀ (k : Nat) (pre : List Nat) (left : Nat), left ≤ 20 → cntG ok k pre left ≤ 21 ^ k
  | 0, pre, left, _ => by unfold cntG; split <;> simp
  | k + 1, pre, left, h => by
    have := sum_le (f := fun j => cntG ok k (pre ++ [j]) (left - j)) (b := 21 ^ k) (l := List.range (left + 1)) fun x _ => cntG_le ok k _ _ (by omega)
    rw [List.length_range] at this
    have h2 : (left + 1) * 21 ^ k ≤ 21 * 21 ^ k := Nat.mul_le_mul_right _ (by omega)
    rw [Nat.pow_succ, Nat.mul_comm (21 ^ k) 21]
    show ((List.range (left + 1)).map fun j => cntG ok k (pre ++ [j]) (left - j)).sum ≤ _
    omega
def sumTo (ok : List Nat → Bool) (k : Nat) (pre : List Nat) (left j : Nat) : Nat := ((List.range j).map fun i => cntG ok k (pre ++ [i]) (left - i)).sum
theorem sumTo_succ (ok : List Nat → Bool) (k : Nat) (pre : List Nat) (left j : Nat) : sumTo ok k pre left (j + 1) = sumTo ok k pre left j + cntG ok k (pre ++ [j]) (left - j) := by
  unfold sumTo; rw [List.range_succ, List.map_append, List.sum_append]; simp
theorem sumTo_le (ok : List Nat → Bool) (k : Nat) (pre : List Nat) (left j : Nat) (h : left ≤ 20) : sumTo ok k pre left j ≤ j * 21 ^ k := by
  have := sum_le (f := fun i => cntG ok k (pre ++ [i]) (left - i)) (b := 21 ^ k) (l := List.range j) fun x _ => cntG_le ok k _ _ (by omega)
  rw [List.length_range] at this
  exact this
set_option maxRecDepth 100000 in
set_option maxHeartbeats 4000000 in
theorem l14Lists_any (m : Int) (A : Option Addr) (n c : Nat) (xs : List Int) (m1 : 1 ≤ m) (m5 : m ≤ 5) (hc : countsOk xs = true) (hn3 : n ≤ 3) : ∀ (k : Nat) (pre : List Nat) (B : Option Addr) (p d left : Nat) (w : World), p + k + 1 = n → IntsAt w A n xs → IntsAt w B p (toI pre) → pre.sum + left ≤ 20 →
    Calls Try.prog 27 #[.int .i64 m, .slice A n c, .slice B p d, .int .i64 (left : Int)] w fun e w' => e = .returned (.int .i64 ((cntG (fun l => fairAll m xs (toI l)) k pre left : Nat) : Int)) ∧ Below w.heap.size w w' := by
  intro k
  induction k with
  | zero =>
    intro pre B p d left w hp h g hs
    have hlx := h.len
    have hlp := g.len
    rw [toI_len] at hlp
    have e1 : (n : Int) - 1 = (p : Int) := by omega
    have HPN := Lib.hid hp
    have hz := (rfl : w.heap.size = w.heap.size)
    have HF := Lib.hid (full_ok hc (l := pre ++ [left]) (by rw [List.length_append, hlp, hlx]; simp; omega) (by rw [List.sum_append]; simpa using hs))
    obtain ⟨ok, hok⟩ : ∃ ok, fairAll m xs (toI (pre ++ [left])) = ok := ⟨_, rfl⟩
    have HC : Hid (cntG (fun l => fairAll m xs (toI l)) 0 pre left = if ok then 1 else 0) := by show _ = _; unfold cntG; rw [← hok]
    have HOK := Lib.hid hok
    clear hp hlp hlx hz hok
    have oe := OwnI.empty w (lo := w.heap.size) (hi := w.heap.size + 1) (Nat.le_refl _) (by omega)
    have be := (Below.refl w.heap.size w).alloc (Nat.le_refl _) (.cells #[] 3)
    have hin2 := g.below be
    have se := World.size_alloc w (.cells #[] 3)
    go_enter Try.func27, Try.ntmps27
    go_wp2_with (at_builtin; refine wpList_append_ints _ rfl _ _ rfl w.heap.size (w.heap.size + 1) 0 0 _ [] rfl oe B p d (toI pre) rfl hin2 (by omega) (by simp) (by simp) ?_)
    intro A3 c3 w3 ho3 hon
    (try simp only [Nat.zero_add, List.nil_append] at ho3)
    have hb3 := be.trans (hon.toBelow (B := w.heap.size) (Nat.le_refl _) (by simp))
    have hs3 := hon.size
    rw [se] at hs3
    clear hon be hin2 se oe
    go_wp2_with (at_builtin; refine wpList_append_int _ rfl _ _ rfl w.heap.size w3.heap.size p c3 A3 (toI pre) rfl (ho3.alloc _) (left : Int) _ 1 rfl (new_cell _ _ _ rfl) (by omega) (by rw [World.size_alloc]; omega) (by rw [World.size_alloc]; omega) ?_)
    intro A4 c4 w4 ho4 hon
    have hb4 : Below w.heap.size w w4 := (hb3.alloc (by omega) _).trans (hon.toBelow (by omega) (by simp; omega))
    have hi4 := ho4.ints
    rw [← toI_append] at hi4
    clear hon ho3 ho4 hb3 hs3
    go_wp2_with fail
    (with_reducible refine (l14Fair_any m A n c xs A4 (p + 1) c4 (toI (pre ++ [left])) w4 (h.below hb4) (by omega) hi4.1 (by omega) m1 m5 HF.out).mono ?_)
    rw [HOK.out]
    rintro e w5 ⟨rfl, hb5⟩
    have hb6 := hb4.trans (hb5.mono hb4.size)
    clear hi4 hb4 hb5
    cases ok
    · go_wp2
      go_ret
      exact ⟨by rw [HC.out]; rfl, hb6⟩
    · go_wp2
      go_ret
      exact ⟨by rw [HC.out]; rfl, hb6⟩
  | succ k ih =>
    intro pre B p d left w hp h g hs
    have hk1 : 21 ^ k ≤ 21 ^ 1 := Nat.pow_le_pow_right (by omega) (by omega)
    obtain ⟨q, hq⟩ : ∃ q, p + k + 1 = q := ⟨_, rfl⟩
    have e1 : (n : Int) - 1 = (q : Int) := by omega
    have t0 : ((p : Int) == (q : Int)) = false := by rw [beq_eq_false_iff_ne]; omega
    have HPN := Lib.hid hp
    have HS := Lib.hid hs
    have hl20 : left ≤ 20 := by omega
    have hp3 : p ≤ 3 := by omega
    have SL := Lib.hid (fun j => sumTo_le (fun l => fairAll m xs (toI l)) k pre left j hl20)
    have CL := Lib.hid (fun j => cntG_le (fun l => fairAll m xs (toI l)) k (pre ++ [j]) (left - j) (by omega))
    have SS := Lib.hid (fun j => sumTo_succ (fun l => fairAll m xs (toI l)) k pre left j)
    have SF : Hid (sumTo (fun l => fairAll m xs (toI l)) k pre left (left + 1) = cntG (fun l => fairAll m xs (toI l)) (k + 1) pre left) := rfl
    have HK := Lib.hid hk1
    have S0 : Hid (sumTo (fun l => fairAll m xs (toI l)) k pre left 0 = 0) := rfl
    clear hp hq hs hk1
    go_enter Try.func27, Try.ntmps27
    go_wp2
    go_loopw [10, 11] (fun tot jv wr => ∃ j : Nat, j ≤ left + 1 ∧ jv = .int .i64 j ∧ tot = .int .i64 ((sumTo (fun l => fairAll m xs (toI l)) k pre left j : Nat) : Int) ∧ Below w.heap.size w wr)
      (fun _ jv _ => left + 1 - (intOf jv).toNat)
    case atStart => exact ⟨0, Nat.zero_le _, rfl, by rw [S0.out]; rfl, Below.refl _ _⟩
    case round =>
      obtain ⟨j, hj, rfl, rfl, hb⟩ := hrel
      obtain ⟨sj, hsj⟩ : ∃ sj, sumTo (fun l => fairAll m xs (toI l)) k pre left j = sj := ⟨_, rfl⟩
      rw [hsj]
      by_cases hlt : j ≤ left
      · have hji : (j : Int) ≤ (left : Int) := by omega
        obtain ⟨r, hr⟩ : ∃ r, left - j = r := ⟨_, rfl⟩
        have e3 : (left : Int) - (j : Int) = (r : Int) := by omega
        obtain ⟨cn, hcn⟩ : ∃ cn, cntG (fun l => fairAll m xs (toI l)) k (pre ++ [j]) r = cn := ⟨_, rfl⟩
        have hS1 := SL.out j
        have hC1 := CL.out j
        have hS2 := SS.out j
        rw [hsj] at hS1 hS2
        rw [hr, hcn] at hC1 hS2
        have hj21 : j * 21 ^ k ≤ 21 * 21 ^ 1 := Nat.mul_le_mul (by omega) HK.out
        have hk2 := HK.out
        have bs : sj ≤ 441 := by omega
        have bc : cn ≤ 441 := by omega
        have HS2 := Lib.hid hS2
        have HI := Lib.hid (fun B d W (a : IntsAt W A n xs) (b : IntsAt W B (p + 1) (toI (pre ++ [j]))) => ih (pre ++ [j]) B (p + 1) d r W (by have := HPN.out; omega) a b (by rw [List.sum_append]; have := HS.out; simp; omega))
        rw [hcn] at HI
        have hsz := hb.size
        clear hS1 hC1 hS2 hj21 hk2 hsj hcn hr
        have oe := OwnI.empty wr (lo := wr.heap.size) (hi := wr.heap.size + 1) (Nat.le_refl _) (by omega)
        have be := (Below.refl wr.heap.size wr).alloc (Nat.le_refl _) (.cells #[] 3)
        have hin2 := (g.below hb).below be
        have se := World.size_alloc wr (.cells #[] 3)
        go_wp2_with (at_builtin; refine wpList_append_ints _ rfl _ _ rfl wr.heap.size (wr.heap.size + 1) 0 0 _ [] rfl oe B p d (toI pre) rfl hin2 (by omega) (by simp) (by simp) ?_)
        intro A3 c3 w3 ho3 hon
        (try simp only [Nat.zero_add, List.nil_append] at ho3)
        have hb3 := hb.trans ((be.trans (hon.toBelow (B := wr.heap.size) (Nat.le_refl _) (by simp))).mono hsz)
        have hs3 := hon.size
        rw [se] at hs3
        clear hon be hin2 se oe
        go_wp2_with (at_builtin; refine wpList_append_int _ rfl _ _ rfl wr.heap.size w3.heap.size p c3 A3 (toI pre) rfl (ho3.alloc _) (j : Int) _ 1 rfl (new_cell _ _ _ rfl) (by omega) (by rw [World.size_alloc]; omega) (by rw [World.size_alloc]; omega) ?_)
        intro A4 c4 w4 ho4 hon
        have hb4 : Below w.heap.size w w4 := (hb3.alloc (by omega) _).trans (hon.toBelow (by omega) (by simp; omega))
        have hi4 := ho4.ints
        rw [← toI_append] at hi4
        clear hon ho3 ho4 hb3 hs3
        go_wp2_with fail
        refine (HI.out A4 c4 w4 (h.below hb4) hi4.1).mono ?_
        rintro e w5 ⟨rfl, hb5⟩
        have hb6 := hb4.trans (hb5.mono hb4.size)
        clear hi4 hb4 hb5 hb
        go_wp2
        go_roundw
        case rel => exact ⟨j + 1, by omega, by go_num, by rw [HS2.out]; go_num, hb6⟩
        case measure => simp [intOf]; omega
      · obtain rfl : j = left + 1 := by omega
        have hf := SF.out
        rw [hsj] at hf
        have HFF := Lib.hid hf
        clear hsj hf
        have hji : ¬ (((left + 1 : Nat) : Int) ≤ (left : Int)) := by omega
        go_wp2
        go_ret
        exact ⟨by rw [← HFF.out]; rfl, hb⟩
end Go.Proofs.Ytmmmgppfmcklpaa
