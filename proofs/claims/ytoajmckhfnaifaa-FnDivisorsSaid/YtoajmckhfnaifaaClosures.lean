/- The library's searches by a predicate, over whatever function value keeps its word. -/
import Derived.Test.YtoajmckhfnaifaaSmall
namespace Go.Proofs.Ytoajmckhfnaifaa
set_option linter.unusedVariables false
open Go.RowKit

theorem enters {f : FuncId} {fn : Func} {c : Code} (hf : Try.prog.funcs[f]? = some fn) (hname : (fn.name == "runtime.NumGoroutine") = false) (hb : fn.body = some c) :
    ∀ (args : Array Value) (w : World), (callFunc f args).run Try.prog w = .ok (.enter f args) w := by
  intro args w
  have h1 : fn.name ≠ "runtime.NumGoroutine" := by simpa using hname
  simp [callFunc, hf, h1, hb, mark]

/-- the place of the first element of which p holds, or -1 -/
def idxP (p : Int → Bool) (xs : List Int) (k : Nat) : Int := if h : k < xs.length then (if p (ix xs k) then (k : Int) else idxP p xs (k + 1)) else -1
termination_by xs.length - k
theorem idxP_step (p : Int → Bool) (xs : List Int) (k : Nat) (h : k < xs.length) : idxP p xs k = if p (ix xs k) then (k : Int) else idxP p xs (k + 1) := by
  rw [idxP, dif_pos h]
theorem idxP_end (p : Int → Bool) (xs : List Int) (k : Nat) (h : xs.length ≤ k) : idxP p xs k = -1 := by
  rw [idxP, dif_neg (by omega)]

theorem idxP_ge (p : Int → Bool) (xs : List Int) : ∀ k, (xs.drop k).any p = decide (0 ≤ idxP p xs k) := by
  intro k
  generalize hd : xs.length - k = d
  induction d generalizing k with
  | zero => rw [idxP_end p xs k (by omega), List.drop_of_length_le (by omega)]; rfl
  | succ d ih =>
    have hk : k < xs.length := by omega
    rw [idxP_step p xs k hk, List.drop_eq_getElem_cons hk, List.any_cons, ← ix_lt hk]
    cases hp : p (ix xs k)
    · simpa using ih (k + 1) (by omega)
    · simp

theorem indexFunc_any (g : Nat) (lb : Array Value) (p : Int → Bool) (A : Option Addr) (n c : Nat) (xs : List Int) (w : World) (h : IntsAt w A n xs) (hn : n ≤ 1099511627776)
    (hen : ∀ (args : Array Value) (w : World), (callFunc g args).run Try.prog w = .ok (.enter g args) w)
    (hg : ∀ x W, x ∈ xs → Below w.heap.size w W → Calls Try.prog g (#[.int .i64 x] ++ lb) W fun e W' => e = .returned (.bool (p x)) ∧ Below W.heap.size W W') :
    Calls Try.prog 48 #[.slice A n c, .func (.func g) #[] lb] w fun e w' => e = .returned (.int .i64 (idxP p xs 0)) ∧ Below w.heap.size w w' := by
  go_enter Try.func48, Try.ntmps48
  go_wp2
  go_loopw [8] (fun i wr => ∃ k : Nat, k ≤ n ∧ i = .int .i64 k ∧ idxP p xs 0 = idxP p xs k ∧ Below w.heap.size w wr) (fun i _ => n - (intOf i).toNat)
  case atStart => exact ⟨0, Nat.zero_le _, rfl, rfl, Below.refl _ _⟩
  case round =>
    obtain ⟨k, hk, rfl, hid, hb⟩ := hrel
    have HI := Lib.hid hid
    clear hid
    have hl := h.len
    by_cases hlt : k < n
    · obtain ⟨b, o, rfl, hbl, hc⟩ := (h.below hb).at_ hlt
      have hck := hc k hlt
      clear hc
      have hgk := hg (ix xs k) wr (ix_mem (by omega)) hb
      have HG := Lib.hid hgk
      clear hgk hg
      go_wp2_with fail
      refine HG.out.mono ?_
      rintro e w' ⟨rfl, hb'⟩
      have hbb : Below w.heap.size w w' := hb.trans (hb'.mono (hb.size))
      have hstep := idxP_step p xs k (by omega)
      cases hp : p (ix xs k)
      · rw [hp, if_neg (by simp)] at hstep
        go_wp2
        go_roundw
        case rel => exact ⟨k + 1, by omega, by go_num, HI.out.trans hstep, hbb⟩
        case measure => simp [intOf]; omega
      · rw [hp, if_pos rfl] at hstep
        have HS := Lib.hid hstep
        clear hstep
        go_wp2
        go_ret
        exact ⟨ret_i (HI.out.trans HS.out).symm, hbb⟩
    · obtain rfl : k = n := by omega
      have hend := idxP_end p xs k (by omega)
      have HS := Lib.hid hend
      clear hend hg
      go_wp2
      go_ret
      exact ⟨ret_i (HI.out.trans HS.out).symm, hb⟩

theorem containsFunc_any (g : Nat) (lb : Array Value) (p : Int → Bool) (A : Option Addr) (n c : Nat) (xs : List Int) (w : World) (h : IntsAt w A n xs) (hn : n ≤ 1099511627776)
    (hen : ∀ (args : Array Value) (w : World), (callFunc g args).run Try.prog w = .ok (.enter g args) w)
    (hg : ∀ x W, x ∈ xs → Below w.heap.size w W → Calls Try.prog g (#[.int .i64 x] ++ lb) W fun e W' => e = .returned (.bool (p x)) ∧ Below W.heap.size W W') :
    Calls Try.prog 45 #[.slice A n c, .func (.func g) #[] lb] w fun e w' => e = .returned (.bool (xs.any p)) ∧ Below w.heap.size w w' := by
  have hH := indexFunc_any g lb p A n c xs w h hn hen hg
  have HG := Lib.hid hH
  clear hH hg
  have he := idxP_ge p xs 0
  rw [List.drop_zero] at he
  have HE := Lib.hid he
  clear he
  go_enter Try.func45, Try.ntmps45
  go_wp2_with fail
  refine HG.out.mono ?_
  rintro e w' ⟨rfl, hb'⟩
  go_wp2
  go_ret
  exact ⟨ret_b HE.out.symm, hb'⟩
theorem allWithin1 (x lo hi : Int) (B C : Nat) (W : World) (h1 : W.cell? ⟨B, 0, none⟩ = some (.int .i64 lo)) (h2 : W.cell? ⟨C, 0, none⟩ = some (.int .i64 hi)) :
    Calls Try.prog 46 #[.int .i64 x, .pointer (some ⟨B, 0, none⟩), .pointer (some ⟨C, 0, none⟩)] W fun e W' => e = .returned (.bool (!inB x lo hi)) ∧ W = W' := by
  go_enter Try.func46, Try.ntmps46
  go_wp2_with (go_at_call 21; refine (within_any _ _ _ _).mono ?_; rintro e w' ⟨rfl, rfl⟩)
  go_ret
  exact ⟨rfl, rfl⟩

theorem not_any_not (xs : List Int) (lo hi : Int) : (!(xs.any fun x => !inB x lo hi)) = xs.all (inB · lo hi) := by
  rw [List.not_any_eq_all_not]
  congr 1
  funext x
  simp

theorem allWithin_any (A : Option Addr) (n c : Nat) (xs : List Int) (lo hi : Int) (w : World) (h : IntsAt w A n xs) (hn : n ≤ 1099511627776) :
    Calls Try.prog 39 #[.slice A n c, .int .i64 lo, .int .i64 hi] w fun e w' => e = .returned (.bool (xs.all (inB · lo hi))) ∧ Below w.heap.size w w' := by
  have hc : ∀ W : World, Below w.heap.size w W → W.heap.size = w.heap.size + 2 → W.cell? ⟨w.heap.size, 0, none⟩ = some (.int .i64 lo) → W.cell? ⟨w.heap.size + 1, 0, none⟩ = some (.int .i64 hi) → _ := fun W hb hz c1 c2 =>
    containsFunc_any 46 #[.pointer (some ⟨w.heap.size, 0, none⟩), .pointer (some ⟨w.heap.size + 1, 0, none⟩)] (fun x => !inB x lo hi) A n c xs W (h.below hb) hn (enters Try.func46 (by kernel_rfl) rfl)
      fun x W' _ hb' => (allWithin1 x lo hi w.heap.size (w.heap.size + 1) W' ((hb'.cell (p := ⟨w.heap.size, 0, none⟩) (by simp; omega)).trans c1) ((hb'.cell (p := ⟨w.heap.size + 1, 0, none⟩) (by simp; omega)).trans c2)).mono fun e w1 ⟨h1, h2⟩ => ⟨h1, by subst h2; exact Below.refl _ _⟩
  go_enter Try.func39, Try.ntmps39
  go_wp2_with fail
  refine (hc _ (((Below.refl _ _).alloc (Nat.le_refl _) _).alloc (by simp) _) (by simp) (old_cell (new_cell _ _ _ rfl) _) (new_cell _ _ _ (by simp))).mono ?_
  rintro e w' ⟨rfl, hb'⟩
  have hb2 := (((Below.refl w.heap.size w).alloc (Nat.le_refl _) (.cells #[.int .i64 lo] 3)).alloc (by simp) (.cells #[.int .i64 hi] 3)).trans (hb'.mono (by simp; omega))
  clear hb' hc
  go_wp2
  go_ret
  exact ⟨ret_b (not_any_not xs lo hi), hb2⟩
/-- the place of the first row of which p holds, or -1 -/
def idxR (p : List Int → Bool) (xss : List (List Int)) (k : Nat) : Int := if k < xss.length then (if p (rx xss k) then (k : Int) else idxR p xss (k + 1)) else -1
termination_by xss.length - k
theorem idxR_step (p : List Int → Bool) (xss : List (List Int)) (k : Nat) (h : k < xss.length) : idxR p xss k = if p (rx xss k) then (k : Int) else idxR p xss (k + 1) := by
  rw [idxR, if_pos h]
theorem idxR_end (p : List Int → Bool) (xss : List (List Int)) (k : Nat) (h : xss.length ≤ k) : idxR p xss k = -1 := by
  rw [idxR, if_neg (by omega)]
theorem idxR_ge (p : List Int → Bool) (xss : List (List Int)) : ∀ k, (xss.drop k).any p = decide (0 ≤ idxR p xss k) := by
  intro k
  generalize hd : xss.length - k = d
  induction d generalizing k with
  | zero => rw [idxR_end p xss k (by omega), List.drop_of_length_le (by omega)]; rfl
  | succ d ih =>
    have hk : k < xss.length := by omega
    rw [idxR_step p xss k hk, List.drop_eq_getElem_cons hk, List.any_cons, ← rx_lt hk]
    cases hp : p (rx xss k)
    · simpa using ih (k + 1) (by omega)
    · simp

end Go.Proofs.Ytoajmckhfnaifaa
