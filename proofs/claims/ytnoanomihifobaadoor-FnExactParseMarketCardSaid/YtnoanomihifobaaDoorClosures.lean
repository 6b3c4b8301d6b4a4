/- The library's searches by a predicate, over whatever function value keeps its word. -/
import Derived.Test.YtnoanomihifobaaDoorSmall
namespace Go.Proofs.YtnoanomihifobaaDoor
set_option linter.unusedVariables false
open Go.RowKit

theorem enters {f : FuncId} {fn : Func} {c : Code} (hf : Tryd.prog.funcs[f]? = some fn) (hname : (fn.name == "runtime.NumGoroutine") = false) (hb : fn.body = some c) :
    ∀ (args : Array Value) (w : World), (callFunc f args).run Tryd.prog w = .ok (.enter f args) w := by
  intro args w
  have h1 : fn.name ≠ "runtime.NumGoroutine" := by simpa using hname
  simp [callFunc, hf, h1, hb, mark]

/-- the place of the first element of which p holds, or -1 -/
def idxP (p : Int → Bool) (xs : List Int) (k : Nat) : Int := if h : k < xs.length then (if p (ix xs k) then (k : Int) else idxP p xs (k + 1)) else -1
termination_by xs.length - k
theorem idxP_step (p : Int → Bool) (xs : List Int) (k : Nat) (h : k < xs.length) : idxP p xs k = if p (ix xs k) then (k : Int) else idxP p xs (k + 1) := by
  rw [idxP, dif_pos h]
theorem idxP_end (p : Int → Bool) (xs : List Int) (k : Nat) (h : xs.length ≤ k) : idxP p xs k = -1 := by
  rw [idxP, dif_neg (by omega)]

theorem idxP_ge (p : Int → Bool) (xs : List Int) : ∀ k, (xs.drop k).any p = decide (0 ≤ idxP p xs k) := by
  intro k
  generalize hd : xs.length - k = d
  induction d generalizing k with
  | zero => rw [idxP_end p xs k (by omega), List.drop_of_length_le (by omega)]; rfl
  | succ d ih =>
    have hk : k < xs.length := by omega
    rw [idxP_step p xs k hk, List.drop_eq_getElem_cons hk, List.any_cons, ← ix_lt hk]
    cases hp : p (ix xs k)
    · simpa using ih (k + 1) (by omega)
    · simp

/-- the place of the first row of which p holds, or -1 -/
def idxR (p : List Int → Bool) (xss : List (List Int)) (k : Nat) : Int := if k < xss.length then (if p (rx xss k) then (k : Int) else idxR p xss (k + 1)) else -1
termination_by xss.length - k
theorem idxR_step (p : List Int → Bool) (xss : List (List Int)) (k : Nat) (h : k < xss.length) : idxR p xss k = if p (rx xss k) then (k : Int) else idxR p xss (k + 1) := by
  rw [idxR, if_pos h]
theorem idxR_end (p : List Int → Bool) (xss : List (List Int)) (k : Nat) (h : xss.length ≤ k) : idxR p xss k = -1 := by
  rw [idxR, if_neg (by omega)]
theorem idxR_ge (p : List Int → Bool) (xss : List (List Int)) : ∀ k, (xss.drop k).any p = decide (0 ≤ idxR p xss k) := by
  intro k
  generalize hd : xss.length - k = d
  induction d generalizing k with
  | zero => rw [idxR_end p xss k (by omega), List.drop_of_length_le (by omega)]; rfl
  | succ d ih =>
    have hk : k < xss.length := by omega
    rw [idxR_step p xss k hk, List.drop_eq_getElem_cons hk, List.any_cons, ← rx_lt hk]
    cases hp : p (rx xss k)
    · simpa using ih (k + 1) (by omega)
    · simp

theorem indexFuncR_any (g : Nat) (lb : Array Value) (p : List Int → Bool) (A : Option Addr) (n c : Nat) (xss : List (List Int)) (w : World) (h : RowsAt w A n xss) (hn : n ≤ 1099511627776)
    (hen : ∀ (args : Array Value) (w : World), (callFunc g args).run Tryd.prog w = .ok (.enter g args) w)
    (hg : ∀ A' c' xs W, xs ∈ xss → IntsAt W A' xs.length xs → xs.length ≤ c' → Below w.heap.size w W → Calls Tryd.prog g (#[.slice A' xs.length c'] ++ lb) W fun e W' => e = .returned (.bool (p xs)) ∧ Below W.heap.size W W') :
    Calls Tryd.prog 50 #[.slice A n c, .func (.func g) #[] lb] w fun e w' => e = .returned (.int .i64 (idxR p xss 0)) ∧ Below w.heap.size w w' := by
  go_enter Tryd.func50, Tryd.ntmps50
  go_wp2
  go_loopw [8] (fun i wr => ∃ k : Nat, k ≤ n ∧ i = .int .i64 k ∧ idxR p xss 0 = idxR p xss k ∧ Below w.heap.size w wr) (fun i _ => n - (intOf i).toNat)
  case atStart => exact ⟨0, Nat.zero_le _, rfl, rfl, Below.refl _ _⟩
  case round =>
    obtain ⟨k, hk, rfl, hid, hb⟩ := hrel
    have HI := Lib.hid hid
    clear hid
    have hl := h.len
    by_cases hlt : k < n
    · obtain ⟨b, o, A', c', rfl, hbl, hck, hcc, hin⟩ := (h.below hb).at_ hlt
      have hgk := hg A' c' (rx xss k) wr (rx_mem (by omega)) hin hcc hb
      have HG := Lib.hid hgk
      clear hgk hg
      go_wp2_with fail
      refine HG.out.mono ?_
      rintro e w' ⟨rfl, hb'⟩
      have hbb : Below w.heap.size w w' := hb.trans (hb'.mono (hb.size))
      have hstep := idxR_step p xss k (by omega)
      cases hp : p (rx xss k)
      · rw [hp, if_neg (by simp)] at hstep
        go_wp2
        go_roundw
        case rel => exact ⟨k + 1, by omega, by go_num, HI.out.trans hstep, hbb⟩
        case measure => simp [intOf]; omega
      · rw [hp, if_pos rfl] at hstep
        have HS := Lib.hid hstep
        clear hstep
        go_wp2
        go_ret
        exact ⟨ret_i (HI.out.trans HS.out).symm, hbb⟩
    · obtain rfl : k = n := by omega
      have hend := idxR_end p xss k (by omega)
      have HS := Lib.hid hend
      clear hend hg
      go_wp2
      go_ret
      exact ⟨ret_i (HI.out.trans HS.out).symm, hb⟩

theorem containsFuncR_any (g : Nat) (lb : Array Value) (p : List Int → Bool) (A : Option Addr) (n c : Nat) (xss : List (List Int)) (w : World) (h : RowsAt w A n xss) (hn : n ≤ 1099511627776)
    (hen : ∀ (args : Array Value) (w : World), (callFunc g args).run Tryd.prog w = .ok (.enter g args) w)
    (hg : ∀ A' c' xs W, xs ∈ xss → IntsAt W A' xs.length xs → xs.length ≤ c' → Below w.heap.size w W → Calls Tryd.prog g (#[.slice A' xs.length c'] ++ lb) W fun e W' => e = .returned (.bool (p xs)) ∧ Below W.heap.size W W') :
    Calls Tryd.prog 40 #[.slice A n c, .func (.func g) #[] lb] w fun e w' => e = .returned (.bool (xss.any p)) ∧ Below w.heap.size w w' := by
  have hH := indexFuncR_any g lb p A n c xss w h hn hen hg
  have HG := Lib.hid hH
  clear hH hg
  have he := idxR_ge p xss 0
  rw [List.drop_zero] at he
  have HE := Lib.hid he
  clear he
  go_enter Tryd.func40, Tryd.ntmps40
  go_wp2_with fail
  refine HG.out.mono ?_
  rintro e w' ⟨rfl, hb'⟩
  go_wp2
  go_ret
  exact ⟨ret_b HE.out.symm, hb'⟩
end Go.Proofs.YtnoanomihifobaaDoor
