/- The library's searches by a predicate, over whatever function value keeps its word. Places in a list of numbers: slices.Index, PlaceOf, Prefers. A row of bools of the call's own. No program is walked here. Rankings: a list of each of the first numbers once. A struct of two fields in a block of the call's own. No program is walked here. Markets: the check of a market, matchings, a matching turned round. -/
import Derived.Test.YtaanppihgldeaaaGreatDoorW02
import Derived.Test.YtaanppihgldeaaaGreatDoorW01
namespace Go.Proofs.YtaanppihgldeaaaGreatDoor
set_option linter.unusedSimpArgs false
set_option linter.unusedVariables false
set_option linter.unusedVariables false
open Go.RowKit

theorem enters {f : FuncId} {fn : Func} {c : Code} (hf : Tryz.prog.funcs[f]? = some fn) (hname : (fn.name == "runtime.NumGoroutine") = false) (hb : fn.body = some c) :
    ∀ (args : Array Value) (w : World), (callFunc f args).run Tryz.prog w = .ok (.enter f args) w := by
  intro args w
  have h1 : fn.name ≠ "runtime.NumGoroutine" := by simpa using hname
  simp [callFunc, hf, h1, hb, mark]

/-- the place of the first element of which p holds, or -1 -/
def idxP (p : Int → Bool) (xs : List Int) (k : Nat) : Int := if h : k < xs.length then (if p (ix xs k) then (k : Int) else idxP p xs (k + 1)) else -1
termination_by xs.length - k
theorem idxP_step (p : Int → Bool) (xs : List Int) (k : Nat) (h : k < xs.length) : idxP p xs k = if p (ix xs k) then (k : Int) else idxP p xs (k + 1) := by
  rw [idxP, dif_pos h]
theorem idxP_end (p : Int → Bool) (xs : List Int) (k : Nat) (h : xs.length ≤ k) : idxP p xs k = -1 := by
  rw [idxP, dif_neg (by omega)]

theorem idxP_ge (p : Int → Bool) (xs : List Int) : ∀ k, (xs.drop k).any p = decide (0 ≤ idxP p xs k) := by
  intro k
  generalize hd : xs.length - k = d
  induction d generalizing k with
  | zero => rw [idxP_end p xs k (by omega), List.drop_of_length_le (by omega)]; rfl
  | succ d ih =>
    have hk : k < xs.length := by omega
    rw [idxP_step p xs k hk, List.drop_eq_getElem_cons hk, List.any_cons, ← ix_lt hk]
    cases hp : p (ix xs k)
    · simpa using ih (k + 1) (by omega)
    · simp

theorem indexFunc_any (g : Nat) (lb : Array Value) (p : Int → Bool) (A : Option Addr) (n c : Nat) (xs : List Int) (w : World) (h : IntsAt w A n xs) (hn : n ≤ 1099511627776)
    (hen : ∀ (args : Array Value) (w : World), (callFunc g args).run Tryz.prog w = .ok (.enter g args) w)
    (hg : ∀ x W, x ∈ xs → Below w.heap.size w W → Calls Tryz.prog g (#[.int .i64 x] ++ lb) W fun e W' => e = .returned (.bool (p x)) ∧ Below W.heap.size W W') :
    Calls Tryz.prog 119 #[.slice A n c, .func (.func g) #[] lb] w fun e w' => e = .returned (.int .i64 (idxP p xs 0)) ∧ Below w.heap.size w w' := by
  go_enter Tryz.func119, Tryz.ntmps119
  go_wp2
  go_loopw [8] (fun i wr => ∃ k : Nat, k ≤ n ∧ i = .int .i64 k ∧ idxP p xs 0 = idxP p xs k ∧ Below w.heap.size w wr) (fun i _ => n - (intOf i).toNat)
  case atStart => exact ⟨0, Nat.zero_le _, rfl, rfl, Below.refl _ _⟩
  case round =>
    obtain ⟨k, hk, rfl, hid, hb⟩ := hrel
    have HI := Lib.hid hid
    clear hid
    have hl := h.len
    by_cases hlt : k < n
    · obtain ⟨b, o, rfl, hbl, hc⟩ := (h.below hb).at_ hlt
      have hck := hc k hlt
      clear hc
      have hgk := hg (ix xs k) wr (ix_mem (by omega)) hb
      have HG := Lib.hid hgk
      clear hgk hg
      go_wp2_with fail
      refine HG.out.mono ?_
      rintro e w' ⟨rfl, hb'⟩
      have hbb : Below w.heap.size w w' := hb.trans (hb'.mono (hb.size))
      have hstep := idxP_step p xs k (by omega)
      cases hp : p (ix xs k)
      · rw [hp, if_neg (by simp)] at hstep
        go_wp2
        go_roundw
        case rel => exact ⟨k + 1, by omega, by go_num, HI.out.trans hstep, hbb⟩
        case measure => simp [intOf]; omega
      · rw [hp, if_pos rfl] at hstep
        have HS := Lib.hid hstep
        clear hstep
        go_wp2
        go_ret
        exact ⟨ret_i (HI.out.trans HS.out).symm, hbb⟩
    · obtain rfl : k = n := by omega
      have hend := idxP_end p xs k (by omega)
      have HS := Lib.hid hend
      clear hend hg
      go_wp2
      go_ret
      exact ⟨ret_i (HI.out.trans HS.out).symm, hb⟩

theorem containsFunc_any (g : Nat) (lb : Array Value) (p : Int → Bool) (A : Option Addr) (n c : Nat) (xs : List Int) (w : World) (h : IntsAt w A n xs) (hn : n ≤ 1099511627776)
    (hen : ∀ (args : Array Value) (w : World), (callFunc g args).run Tryz.prog w = .ok (.enter g args) w)
    (hg : ∀ x W, x ∈ xs → Below w.heap.size w W → Calls Tryz.prog g (#[.int .i64 x] ++ lb) W fun e W' => e = .returned (.bool (p x)) ∧ Below W.heap.size W W') :
    Calls Tryz.prog 168 #[.slice A n c, .func (.func g) #[] lb] w fun e w' => e = .returned (.bool (xs.any p)) ∧ Below w.heap.size w w' := by
  have hH := indexFunc_any g lb p A n c xs w h hn hen hg
  have HG := Lib.hid hH
  clear hH hg
  have he := idxP_ge p xs 0
  rw [List.drop_zero] at he
  have HE := Lib.hid he
  clear he
  go_enter Tryz.func168, Tryz.ntmps168
  go_wp2_with fail
  refine HG.out.mono ?_
  rintro e w' ⟨rfl, hb'⟩
  go_wp2
  go_ret
  exact ⟨ret_b HE.out.symm, hb'⟩
theorem allWithin1 (x lo hi : Int) (B C : Nat) (W : World) (h1 : W.cell? ⟨B, 0, none⟩ = some (.int .i64 lo)) (h2 : W.cell? ⟨C, 0, none⟩ = some (.int .i64 hi)) :
    Calls Tryz.prog 228 #[.int .i64 x, .pointer (some ⟨B, 0, none⟩), .pointer (some ⟨C, 0, none⟩)] W fun e W' => e = .returned (.bool (!inB x lo hi)) ∧ W = W' := by
  go_enter Tryz.func228, Tryz.ntmps228
  go_wp2_with (go_at_call 33; refine (within_any _ _ _ _).mono ?_; rintro e w' ⟨rfl, rfl⟩)
  go_ret
  exact ⟨rfl, rfl⟩

theorem not_any_not (xs : List Int) (lo hi : Int) : (!(xs.any fun x => !inB x lo hi)) = xs.all (inB · lo hi) := by
  rw [List.not_any_eq_all_not]
  congr 1
  funext x
  simp

theorem allWithin_any (A : Option Addr) (n c : Nat) (xs : List Int) (lo hi : Int) (w : World) (h : IntsAt w A n xs) (hn : n ≤ 1099511627776) :
    Calls Tryz.prog 202 #[.slice A n c, .int .i64 lo, .int .i64 hi] w fun e w' => e = .returned (.bool (xs.all (inB · lo hi))) ∧ Below w.heap.size w w' := by
  have hc : ∀ W : World, Below w.heap.size w W → W.heap.size = w.heap.size + 2 → W.cell? ⟨w.heap.size, 0, none⟩ = some (.int .i64 lo) → W.cell? ⟨w.heap.size + 1, 0, none⟩ = some (.int .i64 hi) → _ := fun W hb hz c1 c2 =>
    containsFunc_any 228 #[.pointer (some ⟨w.heap.size, 0, none⟩), .pointer (some ⟨w.heap.size + 1, 0, none⟩)] (fun x => !inB x lo hi) A n c xs W (h.below hb) hn (enters Tryz.func228 (by kernel_rfl) rfl)
      fun x W' _ hb' => (allWithin1 x lo hi w.heap.size (w.heap.size + 1) W' ((hb'.cell (p := ⟨w.heap.size, 0, none⟩) (by simp; omega)).trans c1) ((hb'.cell (p := ⟨w.heap.size + 1, 0, none⟩) (by simp; omega)).trans c2)).mono fun e w1 ⟨h1, h2⟩ => ⟨h1, by subst h2; exact Below.refl _ _⟩
  go_enter Tryz.func202, Tryz.ntmps202
  go_wp2_with fail
  refine (hc _ (((Below.refl _ _).alloc (Nat.le_refl _) _).alloc (by simp) _) (by simp) (old_cell (new_cell _ _ _ rfl) _) (new_cell _ _ _ (by simp))).mono ?_
  rintro e w' ⟨rfl, hb'⟩
  have hb2 := (((Below.refl w.heap.size w).alloc (Nat.le_refl _) (.cells #[.int .i64 lo] 3)).alloc (by simp) (.cells #[.int .i64 hi] 3)).trans (hb'.mono (by simp; omega))
  clear hb' hc
  go_wp2
  go_ret
  exact ⟨ret_b (not_any_not xs lo hi), hb2⟩
/-- the place of the first row of which p holds, or -1 -/
def idxR (p : List Int → Bool) (xss : List (List Int)) (k : Nat) : Int := if k < xss.length then (if p (rx xss k) then (k : Int) else idxR p xss (k + 1)) else -1
termination_by xss.length - k
theorem idxR_step (p : List Int → Bool) (xss : List (List Int)) (k : Nat) (h : k < xss.length) : idxR p xss k = if p (rx xss k) then (k : Int) else idxR p xss (k + 1) := by
  rw [idxR, if_pos h]
theorem idxR_end (p : List Int → Bool) (xss : List (List Int)) (k : Nat) (h : xss.length ≤ k) : idxR p xss k = -1 := by
  rw [idxR, if_neg (by omega)]
theorem idxR_ge (p : List Int → Bool) (xss : List (List Int)) : ∀ k, (xss.drop k).any p = decide (0 ≤ idxR p xss k) := by
  intro k
  generalize hd : xss.length - k = d
  induction d generalizing k with
  | zero => rw [idxR_end p xss k (by omega), List.drop_of_length_le (by omega)]; rfl
  | succ d ih =>
    have hk : k < xss.length := by omega
    rw [idxR_step p xss k hk, List.drop_eq_getElem_cons hk, List.any_cons, ← rx_lt hk]
    cases hp : p (rx xss k)
    · simpa using ih (k + 1) (by omega)
    · simp

theorem indexFuncR_any (g : Nat) (lb : Array Value) (p : List Int → Bool) (A : Option Addr) (n c : Nat) (xss : List (List Int)) (w : World) (h : RowsAt w A n xss) (hn : n ≤ 1099511627776)
    (hen : ∀ (args : Array Value) (w : World), (callFunc g args).run Tryz.prog w = .ok (.enter g args) w)
    (hg : ∀ A' c' xs W, xs ∈ xss → IntsAt W A' xs.length xs → xs.length ≤ c' → Below w.heap.size w W → Calls Tryz.prog g (#[.slice A' xs.length c'] ++ lb) W fun e W' => e = .returned (.bool (p xs)) ∧ Below W.heap.size W W') :
    Calls Tryz.prog 176 #[.slice A n c, .func (.func g) #[] lb] w fun e w' => e = .returned (.int .i64 (idxR p xss 0)) ∧ Below w.heap.size w w' := by
  go_enter Tryz.func176, Tryz.ntmps176
  go_wp2
  go_loopw [8] (fun i wr => ∃ k : Nat, k ≤ n ∧ i = .int .i64 k ∧ idxR p xss 0 = idxR p xss k ∧ Below w.heap.size w wr) (fun i _ => n - (intOf i).toNat)
  case atStart => exact ⟨0, Nat.zero_le _, rfl, rfl, Below.refl _ _⟩
  case round =>
    obtain ⟨k, hk, rfl, hid, hb⟩ := hrel
    have HI := Lib.hid hid
    clear hid
    have hl := h.len
    by_cases hlt : k < n
    · obtain ⟨b, o, A', c', rfl, hbl, hck, hcc, hin⟩ := (h.below hb).at_ hlt
      have hgk := hg A' c' (rx xss k) wr (rx_mem (by omega)) hin hcc hb
      have HG := Lib.hid hgk
      clear hgk hg
      go_wp2_with fail
      refine HG.out.mono ?_
      rintro e w' ⟨rfl, hb'⟩
      have hbb : Below w.heap.size w w' := hb.trans (hb'.mono (hb.size))
      have hstep := idxR_step p xss k (by omega)
      cases hp : p (rx xss k)
      · rw [hp, if_neg (by simp)] at hstep
        go_wp2
        go_roundw
        case rel => exact ⟨k + 1, by omega, by go_num, HI.out.trans hstep, hbb⟩
        case measure => simp [intOf]; omega
      · rw [hp, if_pos rfl] at hstep
        have HS := Lib.hid hstep
        clear hstep
        go_wp2
        go_ret
        exact ⟨ret_i (HI.out.trans HS.out).symm, hbb⟩
    · obtain rfl : k = n := by omega
      have hend := idxR_end p xss k (by omega)
      have HS := Lib.hid hend
      clear hend hg
      go_wp2
      go_ret
      exact ⟨ret_i (HI.out.trans HS.out).symm, hb⟩

theorem containsFuncR_any (g : Nat) (lb : Array Value) (p : List Int → Bool) (A : Option Addr) (n c : Nat) (xss : List (List Int)) (w : World) (h : RowsAt w A n xss) (hn : n ≤ 1099511627776)
    (hen : ∀ (args : Array Value) (w : World), (callFunc g args).run Tryz.prog w = .ok (.enter g args) w)
    (hg : ∀ A' c' xs W, xs ∈ xss → IntsAt W A' xs.length xs → xs.length ≤ c' → Below w.heap.size w W → Calls Tryz.prog g (#[.slice A' xs.length c'] ++ lb) W fun e W' => e = .returned (.bool (p xs)) ∧ Below W.heap.size W W') :
    Calls Tryz.prog 121 #[.slice A n c, .func (.func g) #[] lb] w fun e w' => e = .returned (.bool (xss.any p)) ∧ Below w.heap.size w w' := by
  have hH := indexFuncR_any g lb p A n c xss w h hn hen hg
  have HG := Lib.hid hH
  clear hH hg
  have he := idxR_ge p xss 0
  rw [List.drop_zero] at he
  have HE := Lib.hid he
  clear he
  go_enter Tryz.func121, Tryz.ntmps121
  go_wp2_with fail
  refine HG.out.mono ?_
  rintro e w' ⟨rfl, hb'⟩
  go_wp2
  go_ret
  exact ⟨ret_b HE.out.symm, hb'⟩
end Go.Proofs.YtaanppihgldeaaaGreatDoor
namespace Go.Proofs.YtaanppihgldeaaaGreatDoor
set_option linter.unusedSimpArgs false
set_option linter.unusedVariables false
set_option linter.unusedVariables false
open Go.RowKit

theorem idxP_bd (p : Int → Bool) (xs : List Int) : ∀ k, idxP p xs k = -1 ∨ ((k : Int) ≤ idxP p xs k ∧ idxP p xs k < xs.length ∧ p (ix xs (idxP p xs k).toNat) = true) := by
  intro k
  generalize hd : xs.length - k = d
  induction d generalizing k with
  | zero => exact .inl (idxP_end p xs k (by omega))
  | succ d ih =>
    have hk : k < xs.length := by omega
    rw [idxP_step p xs k hk]
    cases hp : p (ix xs k)
    · rw [if_neg (by simp)]
      rcases ih (k + 1) (by omega) with h | ⟨h1, h2, h3⟩
      · exact .inl h
      · exact .inr ⟨by omega, h2, h3⟩
    · rw [if_pos rfl]
      exact .inr ⟨Int.le_refl _, by omega, by simpa using hp⟩

/-- the place of a in a list, or -1 -/
def place (xs : List Int) (a : Int) : Int := idxP (· == a) xs 0
theorem place_bd (xs : List Int) (a : Int) : -1 ≤ place xs a ∧ place xs a < xs.length := by
  unfold place
  rcases idxP_bd (· == a) xs 0 with h | ⟨h1, h2, _⟩ <;> omega
theorem place_at {xs : List Int} {a : Int} (h : 0 ≤ place xs a) : ix xs (place xs a).toNat = a := by
  unfold place at *
  rcases idxP_bd (· == a) xs 0 with h' | ⟨_, _, h3⟩
  · omega
  · simpa using h3
theorem place_mem {xs : List Int} {a : Int} : 0 ≤ place xs a ↔ a ∈ xs := by
  have h := idxP_ge (· == a) xs 0
  rw [List.drop_zero] at h
  unfold place
  rw [← decide_eq_true_iff (p := 0 ≤ idxP (· == a) xs 0), ← h, List.any_eq_true]
  constructor
  · rintro ⟨x, hx, e⟩; have : x = a := by simpa using e
    rwa [← this]
  · exact fun hx => ⟨a, hx, beq_self_eq_true a⟩
theorem place_neg {xs : List Int} {a : Int} : place xs a < 0 ↔ a ∉ xs := by
  rw [← place_mem]; omega
/-- a stands in a list -/
def has (xs : List Int) (a : Int) : Bool := decide (0 ≤ place xs a)
theorem has_iff {xs : List Int} {a : Int} : has xs a = true ↔ a ∈ xs := by rw [has, decide_eq_true_iff, place_mem]
theorem has_not {xs : List Int} {a : Int} : has xs a = false ↔ a ∉ xs := by rw [← has_iff]; simp
/-- a and b stand in a list, a ahead of b -/
def pref (xs : List Int) (a b : Int) : Bool := decide (0 ≤ place xs a) && decide (0 ≤ place xs b) && decide (place xs a < place xs b)

theorem IntsAt.take {w : World} {A : Option Addr} {n k : Nat} {xs : List Int} (h : IntsAt w A n xs) (hk : k ≤ n) : IntsAt w A k (xs.take k) := by
  refine ⟨by rw [List.length_take, h.1]; omega, fun h0 => ?_⟩
  obtain ⟨b, o, e, hc⟩ := h.2 (by omega)
  refine ⟨b, o, e, fun j hj => ?_⟩
  rw [hc j (by omega)]
  have h1 : j < (xs.take k).length := by rw [List.length_take, h.1]; omega
  rw [ix_lt h1, ix_lt (by rw [h.1]; omega)]
  simp
theorem index_any (A : Option Addr) (n c : Nat) (xs : List Int) (a : Int) (w : World) (h : IntsAt w A n xs) (hn : n ≤ 1099511627776) :
    Calls Tryz.prog 144 #[.slice A n c, .int .i64 a] w fun e w' => e = .returned (.int .i64 (place xs a)) ∧ w = w' := by
  obtain rfl := h.len
  unfold place
  go_enter Tryz.func144, Tryz.ntmps144
  go_wp2
  go_loop [5, 8] (fun _ i => ∃ k : Nat, k ≤ xs.length ∧ i = .int .i64 k ∧ idxP (· == a) xs 0 = idxP (· == a) xs k) (fun _ i => xs.length - (intOf i).toNat)
  case atStart => exact ⟨0, Nat.zero_le _, rfl, rfl⟩
  case round =>
    obtain ⟨k, hk, rfl, hid⟩ := hrel
    have HI := Lib.hid hid
    clear hid
    by_cases hlt : k < xs.length
    · obtain ⟨b, o, rfl, _, hc⟩ := h.at_ hlt
      have hck := hc k hlt
      clear hc
      have hstep := idxP_step (· == a) xs k hlt
      by_cases he : ix xs k = a
      · rw [if_pos (by rw [he]; exact beq_self_eq_true a)] at hstep
        have HS := Lib.hid hstep
        clear hstep
        obtain rfl := he
        go_wp2
        go_ret
        exact ⟨ret_i (HI.out.trans HS.out).symm, rfl⟩
      · rw [if_neg (by simpa using he)] at hstep
        have HS := Lib.hid hstep
        clear hstep
        have h1 : (a == ix xs k) = false := by rw [beq_eq_false_iff_ne]; exact fun e => he e.symm
        have h2 : (ix xs k == a) = false := by rw [beq_eq_false_iff_ne]; exact he
        clear he
        go_wp2
        go_round
        case rel => exact ⟨k + 1, by omega, by go_num, HI.out.trans HS.out⟩
        case measure => simp [intOf]; omega
    · obtain rfl : k = xs.length := by omega
      have hend := idxP_end (· == a) xs xs.length (Nat.le_refl _)
      have HS := Lib.hid hend
      clear hend
      go_wp2
      go_ret
      exact ⟨ret_i (HI.out.trans HS.out).symm, rfl⟩
theorem specPlaceOf_any (A : Option Addr) (n c : Nat) (xs : List Int) (a : Int) (w : World) (h : IntsAt w A n xs) (hn : n ≤ 1099511627776) :
    Calls Tryz.prog 217 #[.slice A n c, .int .i64 a] w fun e w' => e = .returned (.int .i64 (place xs a)) ∧ w = w' := by
  obtain rfl := h.len
  unfold place
  go_enter Tryz.func217, Tryz.ntmps217
  go_wp2
  go_loop [5, 6, 9] (fun _ _ i => ∃ k : Nat, k ≤ xs.length ∧ i = .int .i64 k ∧ idxP (· == a) xs 0 = idxP (· == a) xs k) (fun _ _ i => xs.length - (intOf i).toNat)
  case atStart => exact ⟨0, Nat.zero_le _, rfl, rfl⟩
  case round =>
    obtain ⟨k, hk, rfl, hid⟩ := hrel
    have HI := Lib.hid hid
    clear hid
    by_cases hlt : k < xs.length
    · obtain ⟨b, o, rfl, _, hc⟩ := h.at_ hlt
      have hck := hc k hlt
      clear hc
      have hstep := idxP_step (· == a) xs k hlt
      by_cases he : ix xs k = a
      · rw [if_pos (by rw [he]; exact beq_self_eq_true a)] at hstep
        have HS := Lib.hid hstep
        clear hstep
        obtain rfl := he
        go_wp2
        go_ret
        exact ⟨ret_i (HI.out.trans HS.out).symm, rfl⟩
      · rw [if_neg (by simpa using he)] at hstep
        have HS := Lib.hid hstep
        clear hstep
        have h1 : (a == ix xs k) = false := by rw [beq_eq_false_iff_ne]; exact fun e => he e.symm
        have h2 : (ix xs k == a) = false := by rw [beq_eq_false_iff_ne]; exact he
        clear he
        go_wp2
        go_round
        case rel => exact ⟨k + 1, by omega, by go_num, HI.out.trans HS.out⟩
        case measure => simp [intOf]; omega
    · obtain rfl : k = xs.length := by omega
      have hend := idxP_end (· == a) xs xs.length (Nat.le_refl _)
      have HS := Lib.hid hend
      clear hend
      go_wp2
      go_ret
      exact ⟨ret_i (HI.out.trans HS.out).symm, rfl⟩
theorem contains_any (A : Option Addr) (n c : Nat) (xs : List Int) (a : Int) (w : World) (h : IntsAt w A n xs) (hn : n ≤ 1099511627776) :
    Calls Tryz.prog 123 #[.slice A n c, .int .i64 a] w fun e w' => e = .returned (.bool (has xs a)) ∧ w = w' := by
  go_enter Tryz.func123, Tryz.ntmps123
  go_wp2_with (go_at_call 144; (with_reducible refine (index_any _ _ _ _ _ _ h hn).mono ?_); rintro e w' ⟨rfl, rfl⟩)
  go_ret
  exact ⟨rfl, rfl⟩
theorem implPlaceOf_any (A : Option Addr) (n c : Nat) (xs : List Int) (a : Int) (w : World) (h : IntsAt w A n xs) (hn : n ≤ 1099511627776) :
    Calls Tryz.prog 72 #[.slice A n c, .int .i64 a] w fun e w' => e = .returned (.int .i64 (place xs a)) ∧ w = w' := by
  go_enter Tryz.func72, Tryz.ntmps72
  go_wp2_with (go_at_call 144; (with_reducible refine (index_any _ _ _ _ _ _ h hn).mono ?_); rintro e w' ⟨rfl, rfl⟩)
  go_ret
  exact ⟨rfl, rfl⟩
theorem implPrefers (A : Option Addr) (n c : Nat) (xs : List Int) (a b : Int) (w : World) (h : IntsAt w A n xs) (hn : n ≤ 1099511627776) :
    Calls Tryz.prog 32 #[.slice A n c, .int .i64 a, .int .i64 b] w fun e w' => e = .returned (.bool (pref xs a b)) ∧ w = w' := by
  have HA := Lib.hid (implPlaceOf_any A n c xs a w h hn)
  have HB := Lib.hid (implPlaceOf_any A n c xs b w h hn)
  unfold pref
  have b1 := place_bd xs a
  have b2 := place_bd xs b
  generalize place xs a = p at *
  generalize place xs b = q at *
  by_cases h1 : 0 ≤ p <;> by_cases h2 : 0 ≤ q <;> by_cases h3 : p < q
  all_goals
    go_enter Tryz.func32, Tryz.ntmps32
    go_wp2_with fail
    refine HA.out.mono ?_
    rintro e w' ⟨rfl, rfl⟩
    go_wp2_with fail
    refine HB.out.mono ?_
    rintro e w' ⟨rfl, rfl⟩
    go_wp2
    all_goals go_ret
    all_goals exact ⟨(ret_b (by first | rfl | (simp; done) | (simp [*]; done) | (rw [Bool.eq_iff_iff]; simp; omega) | (rw [Bool.eq_iff_iff]; simp [*]; omega) | (simp [*]; omega))), rfl⟩
theorem specPrefers (A : Option Addr) (n c : Nat) (xs : List Int) (a b : Int) (w : World) (h : IntsAt w A n xs) (hn : n ≤ 1099511627776) :
    Calls Tryz.prog 212 #[.slice A n c, .int .i64 a, .int .i64 b] w fun e w' => e = .returned (.bool (pref xs a b)) ∧ w = w' := by
  have HA := Lib.hid (specPlaceOf_any A n c xs a w h hn)
  have HB := Lib.hid (specPlaceOf_any A n c xs b w h hn)
  unfold pref
  have b1 := place_bd xs a
  have b2 := place_bd xs b
  generalize place xs a = p at *
  generalize place xs b = q at *
  by_cases h1 : 0 ≤ p <;> by_cases h2 : 0 ≤ q <;> by_cases h3 : p < q
  all_goals
    go_enter Tryz.func212, Tryz.ntmps212
    go_wp2_with fail
    refine HA.out.mono ?_
    rintro e w' ⟨rfl, rfl⟩
    go_wp2_with fail
    refine HB.out.mono ?_
    rintro e w' ⟨rfl, rfl⟩
    go_wp2
    all_goals go_ret
    all_goals exact ⟨(ret_b (by first | rfl | (simp; done) | (simp [*]; done) | (rw [Bool.eq_iff_iff]; simp; omega) | (rw [Bool.eq_iff_iff]; simp [*]; omega) | (simp [*]; omega))), rfl⟩
end Go.Proofs.YtaanppihgldeaaaGreatDoor
namespace Go.Proofs.YtaanppihgldeaaaGreatDoor
set_option linter.unusedSimpArgs false
set_option linter.unusedVariables false
set_option linter.unusedVariables false
open Go.RowKit

theorem infoB : (Tryz.prog.info? 4).map (fun i => (i.zero, i.size, i.bytes)) = some (some (.bool false), 1, 1) := by kernel_rfl

def bx (bs : List Bool) (j : Nat) : Bool := bs.getD j false
theorem bx_lt {bs : List Bool} {j : Nat} (h : j < bs.length) : bx bs j = bs[j] := by unfold bx; simp [List.getD, h]
/-- the slice value v is a row of bools of the call's own -/
def OwnB (w : World) (lo hi : Nat) (v : Value) (bs : List Bool) : Prop := w.ownsRow lo 4 1 v bs.length (bs.map Value.bool) ∧ ∀ k, v.ownBlock = some k → k < hi

section
variable {w w' : World} {n : Nat} {bs : List Bool} {v : Value} {lo hi B : Nat}
theorem OwnB.keep (h : OwnB w lo hi v bs) (hf : ∀ k, lo ≤ k → k < hi → k < w.heap.size → w'.heap[k]? = w.heap[k]?) : OwnB w' lo hi v bs := by
  refine ⟨⟨h.1.1, ?_⟩, h.2⟩
  rcases h.1.2 with h0 | ⟨g, cap, cur, hv, hgb, hg, r⟩
  · exact .inl h0
  · exact .inr ⟨g, cap, cur, hv, hgb, by rw [hf g hgb (h.2 g (by rw [hv]; rfl)) (Array.getElem?_eq_some_iff.1 hg).1]; exact hg, r⟩
theorem OwnB.below (h : OwnB w lo hi v bs) (hb : Below w.heap.size w w') : OwnB w' lo hi v bs := h.keep fun k _ _ hs => hb.block k hs
theorem OwnB.only {l2 h2 : Nat} (h : OwnB w lo hi v bs) (ho : Only l2 h2 w w') (hd : hi ≤ l2 ∨ h2 ≤ lo) : OwnB w' lo hi v bs := h.keep fun k h1 h2 hs => ho.block k hs (by omega)
theorem OwnB.alloc (h : OwnB w lo hi v bs) (o : Obj) : OwnB (w.alloc o) lo hi v bs := ⟨World.ownsRow.alloc h.1 o, h.2⟩
theorem OwnB.drewN (h : OwnB w lo hi v bs) (m : Nat) : OwnB (w.drewN m) lo hi v bs := h
theorem OwnB.num {g c : Nat} (h : OwnB w lo hi (.slice (some ⟨g, 0, none⟩) n c) bs) : bs.length = n ∧ g < w.heap.size ∧ lo ≤ g ∧ g < hi := by
  rcases h.1.2 with ⟨h0, _⟩ | ⟨g', cap, cur, hv, hgb, hg, r⟩
  · cases h0
  · cases hv
    exact ⟨rfl, (Array.getElem?_eq_some_iff.1 hg).1, hgb, h.2 g rfl⟩
theorem OwnB.cellAt {g c : Nat} (h : OwnB w lo hi (.slice (some ⟨g, 0, none⟩) n c) bs) (j : Nat) (hj : j < n) : w.cell? ⟨g, j, none⟩ = some (.bool (bx bs j)) := by
  obtain ⟨rfl, _⟩ := h.num
  have := World.ownsRow.cellAt h.1 j (by omega)
  rw [this]
  simp [hj, bx_lt hj]
theorem OwnB.frozenAt {g c : Nat} (h : OwnB w lo hi (.slice (some ⟨g, 0, none⟩) n c) bs) (j : Nat) : w.frozen? ⟨g, j, none⟩ = false := by
  obtain ⟨rfl, _⟩ := h.num
  exact World.ownsRow.frozenAt h.1 j
theorem OwnB.stored {g c : Nat} (h : OwnB w lo hi (.slice (some ⟨g, 0, none⟩) n c) bs) (j : Nat) (x : Bool) :
    OwnB (w.setCell ⟨g, j, none⟩ (.bool x)) lo hi (.slice (some ⟨g, 0, none⟩) n c) (bs.set j x) ∧ Only g (g + 1) w (w.setCell ⟨g, j, none⟩ (.bool x)) := by
  obtain ⟨rfl, _⟩ := h.num
  have h1 := World.ownsRow.stored h.1 j (.bool x)
  refine ⟨⟨?_, h.2⟩, Only.of_grown h1.2 fun k e => by cases e; omega⟩
  rw [List.length_set, List.map_set]
  exact h1.1
end

section
variable {ops : Array Oper} {rest : List Oper} {o : Oper} {a : Act} {Q : Exit → Act → World → Prop}
/-- 'make([]bool, n)' -/
theorem wpList_make_bools (w : World) (hg : o.guard = none) (l c : Operand) (hop : o.op = Op.makeSlice 91 l c) (n : Nat)
    (hl : a.eval l = .int .i64 (n : Int)) (hc : a.eval c = .int .i64 (n : Int)) (hn : n ≤ 1099511627776)
    (hK : ∀ w', OwnB w' w.heap.size (w.heap.size + 1) (.slice (some ⟨w.heap.size, 0, none⟩) n n) (List.replicate n false) → Below w.heap.size w w' → w'.heap.size = w.heap.size + 1 → wpList Tryz.prog ops Q rest (a.put o.dst (.slice (some ⟨w.heap.size, 0, none⟩) n n)) w') :
    wpList Tryz.prog ops Q (o :: rest) a w := by
  obtain ⟨i0, hi, hz0, hz1, hz2⟩ := info_parts infoB
  refine wpList_plain hg fun K hK' => ?_
  have hrun := run_make (P := Tryz.prog) w 91 4 i0 (.bool false) Tryz.underlying91 hi hz0 .i64 .i64 n n (by omega) (by omega) (by rw [hz2]; omega) (by omega)
  simp only [Int.toNat_natCast, hz1, Nat.mul_one] at hrun
  unfold Oper.wp
  simp [execOp, hop, hl, hc, hrun, Result.andThen]
  refine hK' _ _ (hK _ ⟨?_, fun k e => by simp [Value.ownBlock] at e; omega⟩ ((Below.refl _ _).alloc (Nat.le_refl _) _) (by simp))
  have h1 := World.ownsRow_lit (e := 4) (size := 1) (base := w.heap.size) w (madeCells #[Value.bool false] n) n (Nat.le_refl _) (by unfold maxLen; omega) (by simp [size_madeCells])
  rw [toList_madeCells_one] at h1
  simpa [Value.cells] using h1
end
end Go.Proofs.YtaanppihgldeaaaGreatDoor
namespace Go.Proofs.YtaanppihgldeaaaGreatDoor
set_option linter.unusedSimpArgs false
set_option linter.unusedVariables false
set_option linter.unusedVariables false
open Go.RowKit

def rankTo (m : Int) (xs : List Int) (k : Nat) : Bool := allN (fun i => inB (ix xs i) 0 (m - 1) && !has (xs.take i) (ix xs i)) k
/-- a list of m numbers, each of the first m once; m from 1 to 5 -/
def rankOk (m : Int) (xs : List Int) : Bool := inB m 1 5 && decide ((xs.length : Int) = m) && rankTo m xs xs.length

theorem rank_no1 {m : Int} {xs : List Int} {k : Nat} (h : k < xs.length) (hv : inB (ix xs k) 0 (m - 1) = false) : rankTo m xs xs.length = false := allN_false h (by rw [hv]; rfl)
theorem rank_no2 {m : Int} {xs : List Int} {k : Nat} (h : k < xs.length) (hv : has (xs.take k) (ix xs k) = true) : rankTo m xs xs.length = false := allN_false h (by simp [hv])
theorem rank_step {m : Int} {xs : List Int} {k : Nat} (h : rankTo m xs k = true) (h1 : inB (ix xs k) 0 (m - 1) = true) (h2 : has (xs.take k) (ix xs k) = false) : rankTo m xs (k + 1) = true :=
  allN_step h (by rw [h1, h2]; rfl)
set_option maxHeartbeats 400000 in
theorem implRankingOk (m : Int) (A : Option Addr) (n c : Nat) (xs : List Int) (w : World) (h : IntsAt w A n xs) (hn : n ≤ 1048576) (hc : n ≤ c) :
    Calls Tryz.prog 74 #[.int .i64 m, .slice A n c] w fun e w' => e = .returned (.bool (rankOk m xs)) ∧ w = w' := by
  obtain rfl := h.len
  unfold rankOk
  cases hm : inB m 1 5
  · go_enter Tryz.func74, Tryz.ntmps74
    go_wp2_with (go_at_call 33; refine (within_any _ _ _ _).mono ?_; rintro e w' ⟨rfl, rfl⟩)
    go_ret
    exact ⟨rfl, rfl⟩
  obtain ⟨m1, m2⟩ := inB_iff.1 hm
  by_cases hl : (xs.length : Int) = m
  · rw [decide_eq_true hl]
    obtain rfl := hl
    go_enter Tryz.func74, Tryz.ntmps74
    go_wp2_with (go_at_call 33; refine (within_any _ _ _ _).mono ?_; rintro e w' ⟨rfl, rfl⟩)
    go_loop [5, 6, 18] (fun _ _ i => ∃ k : Nat, k ≤ xs.length ∧ i = .int .i64 k ∧ rankTo xs.length xs k = true) (fun _ _ i => xs.length - (intOf i).toNat)
    case atStart => exact ⟨0, Nat.zero_le _, rfl, rfl⟩
    case round =>
      obtain ⟨k, hk, rfl, hid⟩ := hrel
      have HI := Lib.hid hid
      clear hid
      by_cases hlt : k < xs.length
      · have ht := h.take hk
        obtain ⟨b, o, rfl, _, hcc⟩ := h.at_ hlt
        have hck := hcc k hlt
        clear hcc
        cases hv : inB (ix xs k) 0 ((xs.length : Int) - 1)
        · have HS := Lib.hid (rank_no1 hlt hv)
          go_wp2_with (go_at_call 33; refine (within_any _ _ _ _).mono ?_; rintro e w' ⟨rfl, rfl⟩)
          go_ret
          exact ⟨ret_b (by rw [HS.out]; rfl), rfl⟩
        cases hh : has (xs.take k) (ix xs k)
        · have HS := Lib.hid (rank_step HI.out hv hh)
          go_wp2_with (first | (go_at_call 33; refine (within_any _ _ _ _).mono ?_; rintro e w' ⟨rfl, rfl⟩) | (go_at_call 123; (with_reducible refine (contains_any _ _ _ _ _ _ ht (by omega)).mono ?_); rintro e w' ⟨rfl, rfl⟩; rw [hh]))
          go_round
          case rel => exact ⟨k + 1, by omega, by go_num, HS.out⟩
          case measure => simp [intOf]; omega
        · have HS := Lib.hid (rank_no2 (m := xs.length) hlt hh)
          go_wp2_with (first | (go_at_call 33; refine (within_any _ _ _ _).mono ?_; rintro e w' ⟨rfl, rfl⟩) | (go_at_call 123; (with_reducible refine (contains_any _ _ _ _ _ _ ht (by omega)).mono ?_); rintro e w' ⟨rfl, rfl⟩; rw [hh]))
          go_ret
          exact ⟨ret_b (by rw [HS.out]; rfl), rfl⟩
      · obtain rfl : k = xs.length := by omega
        go_wp2
        go_ret
        exact ⟨ret_b (by simp [HI.out]), rfl⟩
  · rw [decide_eq_false hl]
    have hlt : (xs.length : Int) < m ∨ m < xs.length := by omega
    have h1 : ((xs.length : Int) != m) = true := by simpa using hl
    go_enter Tryz.func74, Tryz.ntmps74
    go_wp2_with (go_at_call 33; refine (within_any _ _ _ _).mono ?_; rintro e w' ⟨rfl, rfl⟩)
    go_ret
    exact ⟨rfl, rfl⟩

/-- which numbers below n stand among the first k -/
def seenB (n : Nat) (xs : List Int) (k : Nat) : List Bool := (List.range n).map fun (j : Nat) => has (xs.take k) j
theorem seenB_len (n : Nat) (xs : List Int) (k : Nat) : (seenB n xs k).length = n := by simp [seenB]
theorem bx_seenB {n : Nat} {xs : List Int} {k j : Nat} (hj : j < n) : bx (seenB n xs k) j = has (xs.take k) j := by rw [bx_lt (by rw [seenB_len]; exact hj)]; simp [seenB]
theorem seenB_0 (n : Nat) (xs : List Int) : seenB n xs 0 = List.replicate n false := by
  apply List.ext_getElem
  · simp [seenB]
  · intro i h1 h2
    simp [seenB, has_not]
theorem seenB_set {n : Nat} {xs : List Int} {k j : Nat} (hk : k < xs.length) (hj : ix xs k = (j : Int)) : (seenB n xs k).set j true = seenB n xs (k + 1) := by
  apply List.ext_getElem
  · simp [seenB]
  · intro i h1 h2
    rw [List.getElem_set]
    simp only [seenB, List.getElem_map, List.getElem_range]
    rw [take_ix hk, hj]
    by_cases e : j = i
    · subst e; rw [if_pos rfl]; symm; rw [has_iff]; simp
    · rw [if_neg e, Bool.eq_iff_iff, has_iff, has_iff]
      simp
      omega
set_option maxHeartbeats 400000 in
theorem specRankingOk (m : Int) (A : Option Addr) (n c : Nat) (xs : List Int) (w : World) (h : IntsAt w A n xs) (hn : n ≤ 1048576) (hc : n ≤ c) :
    Calls Tryz.prog 49 #[.int .i64 m, .slice A n c] w fun e w' => e = .returned (.bool (rankOk m xs)) ∧ Below w.heap.size w w' := by
  obtain rfl := h.len
  unfold rankOk
  cases hm : inB m 1 5
  · go_enter Tryz.func49, Tryz.ntmps49
    go_wp2_with (go_at_call 48; refine (l01In_any _ _ _ _).mono ?_; rintro e w' ⟨rfl, rfl⟩)
    go_ret
    exact ⟨rfl, Below.refl _ _⟩
  obtain ⟨m1, m2⟩ := inB_iff.1 hm
  by_cases hl : (xs.length : Int) = m
  · rw [decide_eq_true hl]
    obtain rfl := hl
    go_enter Tryz.func49, Tryz.ntmps49
    go_wp2_with (first | (go_at_call 48; refine (l01In_any _ _ _ _).mono ?_; rintro e w' ⟨rfl, rfl⟩) | ((with_reducible refine wpList_make_bools _ rfl _ _ rfl xs.length rfl rfl (by omega) ?_); intro w1 ho1 hb1 hs1))
    have z1 := hb1.size
    rw [← seenB_0 xs.length xs] at ho1
    go_loopw [7, 21] (fun _ i wr => ∃ k : Nat, k ≤ xs.length ∧ i = .int .i64 k ∧ rankTo xs.length xs k = true ∧ OwnB wr w.heap.size (w.heap.size + 1) (.slice (some ⟨w.heap.size, 0, none⟩) xs.length xs.length) (seenB xs.length xs k) ∧ Below w.heap.size w wr) (fun _ i _ => xs.length - (intOf i).toNat)
    case atStart => exact ⟨0, Nat.zero_le _, rfl, rfl, ho1, hb1⟩
    case round =>
      obtain ⟨k, hk, rfl, hid, hown, hb⟩ := hrel
      have HI := Lib.hid hid
      clear hid
      have zr := hb.size
      by_cases hlt : k < xs.length
      · obtain ⟨b, o, rfl, _, hcc⟩ := (h.below hb).at_ hlt
        have hck := hcc k hlt
        clear hcc
        cases hv : inB (ix xs k) 0 ((xs.length : Int) - 1)
        · have HS := Lib.hid (rank_no1 hlt hv)
          go_wp2_with (go_at_call 48; refine (l01In_any _ _ _ _).mono ?_; rintro e w' ⟨rfl, rfl⟩)
          go_ret
          exact ⟨ret_b (by rw [HS.out]; rfl), hb⟩
        obtain ⟨x0, x1⟩ := inB_iff.1 hv
        obtain ⟨j, hj⟩ : ∃ j : Nat, ix xs k = (j : Int) := ⟨(ix xs k).toNat, by omega⟩
        have hjl : j < xs.length := by omega
        have cj := hown.cellAt j hjl
        have fj := hown.frozenAt j
        rw [bx_seenB hjl] at cj
        rw [hj] at hck hv
        cases hh : has (xs.take k) (j : Int)
        · have HS := Lib.hid (rank_step HI.out (by rw [hj]; exact hv) (by rw [hj]; exact hh))
          have hst := hown.stored j true
          rw [seenB_set hlt hj] at hst
          obtain ⟨ho2, hon⟩ := hst
          have hb2 := Lib.hid (hb.trans (hon.toBelow (B := w.heap.size) (Nat.le_refl _) zr))
          have HO := Lib.hid ho2
          rw [hh] at cj
          clear hown hon ho2 hj x0 x1
          go_wp2_with (go_at_call 48; refine (l01In_any _ _ _ _).mono ?_; rintro e w' ⟨rfl, rfl⟩)
          go_roundw
          case rel => exact ⟨k + 1, by omega, by go_num, HS.out, HO.out, hb2.out⟩
          case measure => simp [intOf]; omega
        · have HS := Lib.hid (rank_no2 (m := xs.length) hlt (by rw [hj]; exact hh))
          rw [hh] at cj
          clear hown hj x0 x1
          go_wp2_with (go_at_call 48; refine (l01In_any _ _ _ _).mono ?_; rintro e w' ⟨rfl, rfl⟩)
          go_ret
          exact ⟨ret_b (by rw [HS.out]; rfl), hb⟩
      · obtain rfl : k = xs.length := by omega
        go_wp2
        go_ret
        exact ⟨ret_b (by simp [HI.out]), hb⟩
  · rw [decide_eq_false hl]
    have hlt : (xs.length : Int) < m ∨ m < xs.length := by omega
    have h1 : ((xs.length : Int) != m) = true := by simpa using hl
    go_enter Tryz.func49, Tryz.ntmps49
    go_wp2_with (go_at_call 48; refine (l01In_any _ _ _ _).mono ?_; rintro e w' ⟨rfl, rfl⟩)
    go_ret
    exact ⟨rfl, Below.refl _ _⟩
end Go.Proofs.YtaanppihgldeaaaGreatDoor
namespace Go.Proofs.YtaanppihgldeaaaGreatDoor
set_option linter.unusedSimpArgs false
set_option linter.unusedVariables false
set_option linter.unusedVariables false
open Go.RowKit

theorem new_pair (w : World) (u v : Value) (t : TypeId) {g : Nat} (hg : g = w.heap.size) : (w.alloc (.cells #[u, v] t)).cell? ⟨g, 0, none⟩ = some u ∧ (w.alloc (.cells #[u, v] t)).cell? ⟨g, 1, none⟩ = some v := by
  subst hg
  constructor
  · rw [cell_of_row _ _ 0 #[u, v] t (0, 0) (heap_alloc_new w _)]; rfl
  · rw [cell_of_row _ _ 1 #[u, v] t (0, 0) (heap_alloc_new w _)]; rfl
/-- both fields of a pair are stored anew -/
theorem pair_set {w : World} {g : Nat} {x0 x1 : Value} (h0 : w.cell? ⟨g, 0, none⟩ = some x0) (h1 : w.cell? ⟨g, 1, none⟩ = some x1) (u v : Value) :
    ((w.setCell ⟨g, 0, none⟩ u).setCell ⟨g, 1, none⟩ v).cell? ⟨g, 0, none⟩ = some u ∧ ((w.setCell ⟨g, 0, none⟩ u).setCell ⟨g, 1, none⟩ v).cell? ⟨g, 1, none⟩ = some v := by
  constructor
  · rw [World.cell?_setCell_other _ _ _ _ (by simp), World.cell?_setCell_same _ _ _ h0]
  · exact World.cell?_setCell_same _ _ _ ((World.cell?_setCell_other _ _ _ _ (by simp)).trans h1)
theorem pair_later {w W : World} {u v : Value} {T : TypeId} (hb : Below (w.heap.size + 1) (w.alloc (.cells #[u, v] T)) W) :
    W.cell? ⟨w.heap.size, 0, none⟩ = some u ∧ W.cell? ⟨w.heap.size, 1, none⟩ = some v ∧ W.frozen? ⟨w.heap.size, 0, none⟩ = false ∧ W.frozen? ⟨w.heap.size, 1, none⟩ = false := by
  have p := new_pair w u v T rfl
  exact ⟨(hb.cell (p := ⟨w.heap.size, 0, none⟩) (Nat.lt_succ_self _)).trans p.1, (hb.cell (p := ⟨w.heap.size, 1, none⟩) (Nat.lt_succ_self _)).trans p.2,
    (hb.frozen (p := ⟨w.heap.size, 0, none⟩) (Nat.lt_succ_self _)).trans (new_free w _ _ rfl 0), (hb.frozen (p := ⟨w.heap.size, 1, none⟩) (Nat.lt_succ_self _)).trans (new_free w _ _ rfl 1)⟩

theorem cell_carry {w w' : World} {p : Addr} {u : Value} (b : Below w.heap.size w w') (k : w.cell? p = some u) : w'.cell? p = some u := (b.cell (World.block_lt_of_cell? w _ k)).trans k
theorem pair_carry {w w' : World} {p0 p1 : Addr} {u v : Value} (b : Below w.heap.size w w') (k : w.cell? p0 = some u ∧ w.cell? p1 = some v) : w'.cell? p0 = some u ∧ w'.cell? p1 = some v :=
  ⟨(b.cell (World.block_lt_of_cell? w _ k.1)).trans k.1, (b.cell (World.block_lt_of_cell? w _ k.2)).trans k.2⟩
theorem pair_below (w : World) (u v : Value) (T : TypeId) : Below w.heap.size w (w.alloc (.cells #[u, v] T)) := (Below.refl _ _).alloc (Nat.le_refl _) _
theorem pair_size (w : World) (u v : Value) (T : TypeId) : (w.alloc (.cells #[u, v] T)).heap.size = w.heap.size + 1 := World.size_alloc _ _
theorem new_triple (w : World) (u v x : Value) (t : TypeId) {g : Nat} (hg : g = w.heap.size) : (w.alloc (.cells #[u, v, x] t)).cell? ⟨g, 0, none⟩ = some u ∧ (w.alloc (.cells #[u, v, x] t)).cell? ⟨g, 1, none⟩ = some v ∧ (w.alloc (.cells #[u, v, x] t)).cell? ⟨g, 2, none⟩ = some x := by
  subst hg
  refine ⟨?_, ?_, ?_⟩
  · rw [cell_of_row _ _ 0 #[u, v, x] t (0, 0) (heap_alloc_new w _)]; rfl
  · rw [cell_of_row _ _ 1 #[u, v, x] t (0, 0) (heap_alloc_new w _)]; rfl
  · rw [cell_of_row _ _ 2 #[u, v, x] t (0, 0) (heap_alloc_new w _)]; rfl
theorem triple_below (w : World) (u v x : Value) (T : TypeId) : Below w.heap.size w (w.alloc (.cells #[u, v, x] T)) := (Below.refl _ _).alloc (Nat.le_refl _) _
end Go.Proofs.YtaanppihgldeaaaGreatDoor
namespace Go.Proofs.YtaanppihgldeaaaGreatDoor
set_option linter.unusedSimpArgs false
set_option linter.unusedVariables false
set_option linter.unusedVariables false
open Go.RowKit

theorem rankTo_iff {m : Int} {xs : List Int} {k : Nat} : rankTo m xs k = true ↔ ∀ i, i < k → (0 ≤ ix xs i ∧ ix xs i < m) ∧ ix xs i ∉ xs.take i := by
  unfold rankTo
  rw [allN_iff]
  constructor
  · intro h i hi
    have := h i hi
    rw [Bool.and_eq_true, inB_iff, Bool.not_eq_true', has_not] at this
    exact ⟨by omega, this.2⟩
  · intro h i hi
    rw [Bool.and_eq_true, inB_iff, Bool.not_eq_true', has_not]
    exact ⟨by have := h i hi; omega, (h i hi).2⟩
theorem rankOk_facts {m : Int} {xs : List Int} (h : rankOk m xs = true) : 1 ≤ m ∧ m ≤ 5 ∧ (xs.length : Int) = m ∧ ∀ i, i < xs.length → 0 ≤ ix xs i ∧ ix xs i < m := by
  unfold rankOk at h
  rw [Bool.and_eq_true, Bool.and_eq_true, inB_iff, decide_eq_true_eq, rankTo_iff] at h
  exact ⟨h.1.1.1, h.1.1.2, h.1.2, fun i hi => (h.2 i hi).1⟩

theorem isRanking_any (A : Option Addr) (n c : Nat) (xs : List Int) (w : World) (h : IntsAt w A n xs) (hn : n ≤ 1048576) (hc : n ≤ c) :
    Calls Tryz.prog 44 #[.slice A n c] w fun e w' => e = .returned (.bool (rankOk n xs)) ∧ w = w' := by
  go_enter Tryz.func44, Tryz.ntmps44
  go_wp2_with (go_at_call 74; (with_reducible refine (implRankingOk _ _ _ _ _ _ h hn hc).mono ?_); rintro e w' ⟨rfl, rfl⟩)
  go_ret
  exact ⟨rfl, rfl⟩
/-- all lists are rankings of m -/
def listsOk (m : Int) (xss : List (List Int)) : Bool := xss.all (rankOk m)
theorem any_not_lists (m : Int) (l : List (List Int)) : (!(l.any fun x => !rankOk m x)) = listsOk m l := by
  unfold listsOk
  rw [List.not_any_eq_all_not]
  congr 1
  funext x
  simp
/-- as many men as women, from 1 to 5, and each list a ranking -/
def marketOk (xss yss : List (List Int)) : Bool := inB xss.length 1 5 && decide ((yss.length : Int) = xss.length) && listsOk xss.length xss && listsOk xss.length yss
def matchOk (xss yss : List (List Int)) (zs : List Int) : Bool := marketOk xss yss && rankOk xss.length zs
end Go.Proofs.YtaanppihgldeaaaGreatDoor
