/- Elimination, the program's side: firstOf, lastOf, eliminated and the three orders. The three orders of elimination and the last of a list, the program's side. Quotas of seats. Numbers below n in the order of what is left of each, greatest first: plain Lean, no program is walked here. -/
import Derived.Test.YtcjnjnegaoihoaaGreatW05
import Derived.Test.YtcjnjnegaoihoaaGreatW06
import Derived.Test.YtcjnjnegaoihoaaGreatW07
import Derived.Test.YtcjnjnegaoihoaaGreatW03
import Derived.Test.YtcjnjnegaoihoaaGreatW02
namespace Go.Proofs.YtcjnjnegaoihoaaGreat
set_option linter.unusedSimpArgs false
set_option linter.unusedVariables false
set_option linter.unusedVariables false
open Go.RowKit

def firstP (left r : List Int) (a : Int) : Bool := !(left.any fun b => pref r b a)
def lastP (left r : List Int) (a : Int) : Bool := !(left.any fun b => pref r a b)
def firstN (vs : List Vt) (left : List Int) (a : Int) : Int := vts (fun r => firstP left r a) vs
def lastN (vs : List Vt) (left : List Int) (a : Int) : Int := vts (fun r => lastP left r a) vs
def pairN (vs : List Vt) (a : Int) (left : List Int) : Nat → Int
  | 0 => 0
  | k + 1 => pairN vs a left k + pairP vs a (ix left k)
def baldN (vs : List Vt) (left : List Int) (a : Int) : Int := pairN vs a left left.length
theorem firstOf1 (left r : List Int) (a : Int) (L A' : Option Addr) (lc c' g1 g2 : Nat) (W : World) (y0 : W.cell? ⟨g1, 0, none⟩ = some (.slice L left.length lc)) (z0 : W.cell? ⟨g2, 0, none⟩ = some (.int .i64 a))
    (hl : IntsAt W L left.length left) (hll : left.length ≤ 1048576) (hr : IntsAt W A' r.length r) (hrl : r.length ≤ 1048576) :
    Calls Tryz.prog 152 #[.slice A' r.length c', .pointer (some ⟨g1, 0, none⟩), .pointer (some ⟨g2, 0, none⟩)] W fun e W' => e = .returned (.bool (firstP left r a)) ∧ Below W.heap.size W W' := by
  have hB := alloc_below W (.cells #[.slice A' r.length c'] 26)
  have x0 := new_cell W (.slice A' r.length c') 26 rfl
  replace y0 := cell_carry hB y0
  replace z0 := cell_carry hB z0
  replace hl := hl.below hB
  replace hr := hr.below hB
  generalize hw0 : W.alloc (.cells #[.slice A' r.length c'] 26) = w0 at *
  have K := Lib.hid (containsFunc_any 154 #[.pointer (some ⟨W.heap.size, 0, none⟩), .pointer (some ⟨g2, 0, none⟩)] (fun b => pref r b a) L left.length lc left w0 hl (by omega) (enters Tryz.func154 (by kernel_rfl) rfl) (fun b W1 _ hb => by
    replace x0 := cell_carry hb x0
    replace z0 := cell_carry hb z0
    replace hr := hr.below hb
    clear y0
    go_enter Tryz.func154, Tryz.ntmps154
    go_wp2_with fail
    (with_reducible refine (implPrefers A' _ c' r b a _ hr (by omega)).mono ?_)
    rintro e w1 ⟨rfl, rfl⟩
    go_wp2
    go_ret
    exact ⟨rfl, Below.refl _ _⟩))
  unfold firstP
  generalize left.any (fun b => pref r b a) = q at *
  go_enter Tryz.func152, Tryz.ntmps152
  go_wp2_with fail
  (with_reducible refine (K.out).mono ?_)
  rintro e w1 ⟨rfl, b1⟩
  replace hB := hB.trans (b1.mono hB.size)
  clear b1
  go_wp2
  go_ret
  exact ⟨rfl, hB⟩
theorem lastOf1 (left r : List Int) (a : Int) (L A' : Option Addr) (lc c' g1 g2 : Nat) (W : World) (y0 : W.cell? ⟨g1, 0, none⟩ = some (.slice L left.length lc)) (z0 : W.cell? ⟨g2, 0, none⟩ = some (.int .i64 a))
    (hl : IntsAt W L left.length left) (hll : left.length ≤ 1048576) (hr : IntsAt W A' r.length r) (hrl : r.length ≤ 1048576) :
    Calls Tryz.prog 155 #[.slice A' r.length c', .pointer (some ⟨g1, 0, none⟩), .pointer (some ⟨g2, 0, none⟩)] W fun e W' => e = .returned (.bool (lastP left r a)) ∧ Below W.heap.size W W' := by
  have hB := alloc_below W (.cells #[.slice A' r.length c'] 26)
  have x0 := new_cell W (.slice A' r.length c') 26 rfl
  replace y0 := cell_carry hB y0
  replace z0 := cell_carry hB z0
  replace hl := hl.below hB
  replace hr := hr.below hB
  generalize hw0 : W.alloc (.cells #[.slice A' r.length c'] 26) = w0 at *
  have K := Lib.hid (containsFunc_any 156 #[.pointer (some ⟨W.heap.size, 0, none⟩), .pointer (some ⟨g2, 0, none⟩)] (fun b => pref r a b) L left.length lc left w0 hl (by omega) (enters Tryz.func156 (by kernel_rfl) rfl) (fun b W1 _ hb => by
    replace x0 := cell_carry hb x0
    replace z0 := cell_carry hb z0
    replace hr := hr.below hb
    clear y0
    go_enter Tryz.func156, Tryz.ntmps156
    go_wp2_with fail
    (with_reducible refine (implPrefers A' _ c' r a b _ hr (by omega)).mono ?_)
    rintro e w1 ⟨rfl, rfl⟩
    go_wp2
    go_ret
    exact ⟨rfl, Below.refl _ _⟩))
  unfold lastP
  generalize left.any (fun b => pref r a b) = q at *
  go_enter Tryz.func155, Tryz.ntmps155
  go_wp2_with fail
  (with_reducible refine (K.out).mono ?_)
  rintro e w1 ⟨rfl, b1⟩
  replace hB := hB.trans (b1.mono hB.size)
  clear b1
  go_wp2
  go_ret
  exact ⟨rfl, hB⟩
set_option maxHeartbeats 400000 in
theorem implFirstOf (m : Int) (A : Option Addr) (n c : Nat) (vs : List Vt) (L : Option Addr) (l lc : Nat) (left : List Int) (a : Int) (w : World) (h : VotesAt w A n vs) (F : PF m vs) (hl : IntsAt w L l left) (hll : l ≤ 1048576) :
    Calls Tryz.prog 111 #[.agg #[.int .i64 m, .slice A n c], .slice L l lc, .int .i64 a] w fun e w' => e = .returned (.int .i64 (firstN vs left a)) ∧ Below w.heap.size w w' := by
  have hl0 := hl.below (alloc_below w (.cells #[.int .i64 m, .slice A n c] 31))
  obtain rfl := hl.len
  clear hl
  obtain rfl := h.len
  have hB := alloc_below w (.cells #[.int .i64 m, .slice A vs.length c] 31)
  obtain ⟨x0, x1⟩ := PBox.new w m A vs.length c 31 rfl
  replace h := h.below hB
  generalize hw0 : w.alloc (.cells #[.int .i64 m, .slice A vs.length c] 31) = w0 at *
  have s0 : w0.heap.size = w.heap.size + 1 := by rw [← hw0]; simp
  have b1 := alloc_below w0 (.cells #[.slice L left.length lc] 26)
  have y0 := new_cell w0 (.slice L left.length lc) 26 s0.symm
  have b2 := alloc_below (w0.alloc (.cells #[.slice L left.length lc] 26)) (.cells #[.int .i64 a] 3)
  have z0 := new_cell (w0.alloc (.cells #[.slice L left.length lc] 26)) (.int .i64 a) 3 (g := w.heap.size + 2) (by simp; omega)
  replace y0 := cell_carry b2 y0
  have b3 := b1.trans (b2.mono b1.size)
  replace x0 := cell_carry b3 x0
  replace x1 := cell_carry b3 x1
  replace hl0 := hl0.below b3
  replace h := h.below b3
  replace hB := hB.trans (b3.mono hB.size)
  clear b1 b2 b3
  have S0 := Lib.hid s0
  generalize hw1 : (w0.alloc (.cells #[.slice L left.length lc] 26)).alloc (.cells #[.int .i64 a] 3) = w1 at *
  have K := Lib.hid (implVoters 152 #[.pointer (some ⟨w.heap.size + 1, 0, none⟩), .pointer (some ⟨w.heap.size + 2, 0, none⟩)] (fun r => firstP left r a) m A vs.length c vs w1 h F.n F.c (enters Tryz.func152 (by kernel_rfl) rfl)
    (fun A' c' v W hv hin hcc hb => firstOf1 left v.r a L A' lc c' _ _ W (cell_carry hb y0) (cell_carry hb z0) (hl0.below hb) hll hin (by have := F.l v hv; have := F.m5; omega)))
  unfold firstN
  go_enter Tryz.func111, Tryz.ntmps111
  go_wp2_with fail
  (with_reducible refine (K.out).mono ?_)
  rintro e w1 ⟨rfl, b1⟩
  replace hB := hB.trans (b1.mono hB.size)
  clear b1
  go_wp2
  go_ret
  exact ⟨rfl, hB⟩
set_option maxHeartbeats 400000 in
theorem implLastOfP (m : Int) (A : Option Addr) (n c : Nat) (vs : List Vt) (L : Option Addr) (l lc : Nat) (left : List Int) (a : Int) (w : World) (h : VotesAt w A n vs) (F : PF m vs) (hl : IntsAt w L l left) (hll : l ≤ 1048576) :
    Calls Tryz.prog 113 #[.agg #[.int .i64 m, .slice A n c], .slice L l lc, .int .i64 a] w fun e w' => e = .returned (.int .i64 (lastN vs left a)) ∧ Below w.heap.size w w' := by
  have hl0 := hl.below (alloc_below w (.cells #[.int .i64 m, .slice A n c] 31))
  obtain rfl := hl.len
  clear hl
  obtain rfl := h.len
  have hB := alloc_below w (.cells #[.int .i64 m, .slice A vs.length c] 31)
  obtain ⟨x0, x1⟩ := PBox.new w m A vs.length c 31 rfl
  replace h := h.below hB
  generalize hw0 : w.alloc (.cells #[.int .i64 m, .slice A vs.length c] 31) = w0 at *
  have s0 : w0.heap.size = w.heap.size + 1 := by rw [← hw0]; simp
  have b1 := alloc_below w0 (.cells #[.slice L left.length lc] 26)
  have y0 := new_cell w0 (.slice L left.length lc) 26 s0.symm
  have b2 := alloc_below (w0.alloc (.cells #[.slice L left.length lc] 26)) (.cells #[.int .i64 a] 3)
  have z0 := new_cell (w0.alloc (.cells #[.slice L left.length lc] 26)) (.int .i64 a) 3 (g := w.heap.size + 2) (by simp; omega)
  replace y0 := cell_carry b2 y0
  have b3 := b1.trans (b2.mono b1.size)
  replace x0 := cell_carry b3 x0
  replace x1 := cell_carry b3 x1
  replace hl0 := hl0.below b3
  replace h := h.below b3
  replace hB := hB.trans (b3.mono hB.size)
  clear b1 b2 b3
  have S0 := Lib.hid s0
  generalize hw1 : (w0.alloc (.cells #[.slice L left.length lc] 26)).alloc (.cells #[.int .i64 a] 3) = w1 at *
  have K := Lib.hid (implVoters 155 #[.pointer (some ⟨w.heap.size + 1, 0, none⟩), .pointer (some ⟨w.heap.size + 2, 0, none⟩)] (fun r => lastP left r a) m A vs.length c vs w1 h F.n F.c (enters Tryz.func155 (by kernel_rfl) rfl)
    (fun A' c' v W hv hin hcc hb => lastOf1 left v.r a L A' lc c' _ _ W (cell_carry hb y0) (cell_carry hb z0) (hl0.below hb) hll hin (by have := F.l v hv; have := F.m5; omega)))
  unfold lastN
  go_enter Tryz.func113, Tryz.ntmps113
  go_wp2_with fail
  (with_reducible refine (K.out).mono ?_)
  rintro e w1 ⟨rfl, b1⟩
  replace hB := hB.trans (b1.mono hB.size)
  clear b1
  go_wp2
  go_ret
  exact ⟨rfl, hB⟩
def instF (vs : List Vt) (left : List Int) (a : Int) : Int := firstN vs left a
def coomF (vs : List Vt) (left : List Int) (a : Int) : Int := -lastN vs left a
/-- the place of the last one with the least worth among the first k that are left -/
def worstTo (f : Int → Int) (left : List Int) : Nat → Nat
  | 0 => 0
  | k + 1 => if f (ix left k) ≤ f (ix left (worstTo f left k)) then k else worstTo f left k
theorem worstTo_lt (f : Int → Int) (left : List Int) : ∀ k, 0 < k → worstTo f left k < k
  | 0, h => absurd h (by omega)
  | k + 1, _ => by
    rw [worstTo]
    split
    · omega
    · rcases Nat.eq_zero_or_pos k with e | e
      · subst e; simp [worstTo]
      · have := worstTo_lt f left k e; omega
theorem worstTo_le (f : Int → Int) (left : List Int) (k : Nat) : worstTo f left k ≤ k := by
  rcases Nat.eq_zero_or_pos k with e | e
  · subst e; simp [worstTo]
  · have := worstTo_lt f left k e; omega
def worst (wf : List Int → Int → Int) (left : List Int) : Nat := worstTo (wf left) left left.length
/-- what is left, and the order, after k eliminations -/
def elim (wf : List Int → Int → Int) : Nat → List Int → List Int
  | 0, _ => []
  | k + 1, left => ix left (worst wf left) :: elim wf k (left.eraseIdx (worst wf left))
theorem elim_len (wf : List Int → Int → Int) : ∀ k left, (elim wf k left).length = k
  | 0, _ => rfl
  | k + 1, left => by rw [elim, List.length_cons, elim_len wf k]
def elimP (wf : List Int → Int → Int) (m : Int) : List Int := elim wf m.toNat (upE m.toNat)
def elimR (wf : List Int → Int → Int) (m : Int) (vs : List Vt) : List Int := if profOk m vs then elimP wf m else []
def lenOf : Value → Nat
  | .slice _ n _ => n
  | _ => 0
set_option maxRecDepth 100000 in
set_option maxHeartbeats 1000000 in
theorem implEliminated (g : Nat) (lb : Array Value) (wf : List Int → Int → Int) (m : Int) (A : Option Addr) (n c : Nat) (vs : List Vt) (w : World) (h : VotesAt w A n vs) (hn : n ≤ 1048576) (hx : ∀ v ∈ vs, v.r.length ≤ 1048576)
    (hen : ∀ (args : Array Value) (w : World), (callFunc g args).run Tryz.prog w = .ok (.enter g args) w)
    (hg : profOk m vs = true → ∀ (left : List Int) (a : Int) L lc W, left.length ≤ 5 → (∀ x ∈ left, 0 ≤ x ∧ x < m) → IntsAt W L left.length left → Below w.heap.size w W → Calls Tryz.prog g (#[.slice L left.length lc, .int .i64 a] ++ lb) W fun e W' => e = .returned (.int .i64 (wf left a)) ∧ Below W.heap.size W W') :
    Calls Tryz.prog 109 #[.agg #[.int .i64 m, .slice A n c], .func (.func g) #[] lb] w fun e w' => ∃ A' c', e = .returned (.slice A' (elimR wf m vs).length c') ∧ OwnI w' w.heap.size w'.heap.size (.slice A' (elimR wf m vs).length c') (elimR wf m vs) ∧ Below w.heap.size w w' := by
  obtain rfl := h.len
  have hB := alloc_below w (.cells #[.int .i64 m, .slice A vs.length c] 31)
  obtain ⟨x0, x1⟩ := PBox.new w m A vs.length c 31 rfl
  replace h := h.below hB
  generalize hw0 : w.alloc (.cells #[.int .i64 m, .slice A vs.length c] 31) = w0 at *
  have K := Lib.hid (implProfileOk m A vs.length c vs _ h hn hx)
  unfold elimR
  clear hx
  cases hp : profOk m vs
  · rw [hp] at K
    simp only [Bool.false_eq_true, if_false, List.length_nil]
    clear hg
    go_enter Tryz.func109, Tryz.ntmps109
    go_wp2_with fail
    (with_reducible refine (K.out).mono ?_)
    rintro e w1 ⟨rfl, b1⟩
    replace hB := hB.trans (b1.mono hB.size)
    clear b1
    go_wp2
    go_ret
    exact ⟨_, _, rfl, OwnI.nil _ _ _, hB⟩
  rw [hp] at K
  simp only [if_true]
  have F := pf_of hp
  have HG := Lib.hid (hg hp)
  clear hg hp
  obtain ⟨M, rfl⟩ : ∃ M : Nat, m = (M : Int) := ⟨m.toNat, by have := F.m1; omega⟩
  have M5 : M ≤ 5 := by have := F.m5; omega
  unfold elimP
  rw [Int.toNat_natCast, elim_len]
  obtain ⟨T, hT⟩ : ∃ T, elim wf M (upE M) = T := ⟨_, rfl⟩
  rw [hT]
  have HT := Lib.hid hT
  clear hT
  have M1 : 1 ≤ M := by have := F.m1; omega
  go_enter Tryz.func109, Tryz.ntmps109
  go_wp2_with fail
  (with_reducible refine (K.out).mono ?_)
  rintro e w1 ⟨rfl, b1⟩
  replace x0 := cell_carry b1 x0
  replace x1 := cell_carry b1 x1
  replace hB := hB.trans (b1.mono hB.size)
  clear b1
  clear K hw0
  go_wp2_with fail
  (with_reducible refine (indicesE_any M _ (by omega)).mono ?_)
  rintro e w2 ⟨A2, c2, rfl, o2, b2⟩
  obtain ⟨gl, rfl, gl1, gl2⟩ := o2.head M1
  replace o2 := o2.tight
  have gl3 := o2.num.2.1
  have z1 := hB.size
  have z2 := b2.size
  clear x0 x1
  go_wp2
  go_loopw [5, 6] (fun v5 v6 wr => ∃ (left os : List Int) (A5 : Option Addr) (c5 cl : Nat), left.length + os.length = M ∧ Hid (os ++ elim wf left.length left = T) ∧ (∀ x ∈ left, 0 ≤ x ∧ x < (M : Int)) ∧ v5 = .slice A5 os.length c5 ∧ v6 = .slice (some ⟨gl, 0, none⟩) left.length cl ∧
    OwnI wr w2.heap.size wr.heap.size (.slice A5 os.length c5) os ∧ OwnI wr gl (gl + 1) (.slice (some ⟨gl, 0, none⟩) left.length cl) left ∧ Below w1.heap.size w1 wr ∧ w2.heap.size ≤ wr.heap.size) (fun _ v6 _ => lenOf v6)
  case atStart =>
    refine ⟨upE M, [], none, 0, c2, by simp [upE_len], ?_, fun x hx => ?_, rfl, by rw [upE_len], OwnI.nil _ _ _, by rw [upE_len]; exact o2, b2, Nat.le_refl _⟩
    · show _ = _; rw [upE_len]; simpa using HT.out
    · obtain ⟨j, hj, rfl⟩ := upE_mem hx; omega
  case round =>
    clear o2
    obtain ⟨wo, rfl⟩ : ∃ wo, wo = wr := ⟨_, rfl⟩
    obtain ⟨left, os, A5, c5, cl, hlen, hT, hmem, rfl, rfl, ho, hl, hb, zr⟩ := hrel
    have HM := Lib.hid hmem
    have l5 : left.length ≤ 5 := by omega
    have l6 : os.length ≤ 5 := by omega
    clear hmem
    by_cases hlt : 0 < left.length
    · have hlenI := Lib.hid hlen
      clear hlen
      go_wp2
      go_loopw [7, 8, 9, 21] (fun v7 _ _ i wr => ∃ j : Nat, j ≤ left.length ∧ i = .int .i64 j ∧ v7 = .int .i64 (worstTo (wf left) left j : Nat) ∧ Below wo.heap.size wo wr) (fun _ _ _ i _ => left.length - (intOf i).toNat)
      case atStart => exact ⟨0, Nat.zero_le _, rfl, rfl, Below.refl _ _⟩
      case round =>
        obtain ⟨j, hj, rfl, rfl, hbj⟩ := hrel
        by_cases hlj : j < left.length
        · have hlw := hl.belowW hbj
          have d1 := hlw.cellAt j hlj
          have wl := worstTo_le (wf left) left j
          have hwl : worstTo (wf left) left j < left.length := by omega
          have d2 := hlw.cellAt _ hwl
          have hat := hlw.at_
          have HS : Hid (worstTo (wf left) left (j + 1) = if wf left (ix left j) ≤ wf left (ix left (worstTo (wf left) left j)) then j else worstTo (wf left) left j) := rfl
          have hbw := hB.trans ((hb.trans (hbj.mono hb.size)).mono hB.size)
          have K0 := fun (x : Int) (L : Later wr) => L.call (HG.out left x (some ⟨gl, 0, none⟩) cl L.W l5 HM.out (hat.below L.h) (hbw.trans (L.h.mono hbw.size)))
          generalize worstTo (wf left) left j = at_ at *
          have K1 := Lib.hid (K0 (ix left j))
          have K2 := Lib.hid (K0 (ix left at_))
          have q1 : ∀ L : Later wr, L.W.cell? ⟨gl, at_, none⟩ = some (.int .i64 (ix left at_)) := fun L => L.cell d2
          clear K0 hlw hat hbw d2 wl
          have i1 : (at_ : Int) < (left.length : Int) := by omega
          generalize wf left (ix left j) = f1 at *
          generalize wf left (ix left at_) = f2 at *
          generalize ix left j = x1 at *
          generalize ix left at_ = x2 at *
          by_cases hle : f1 ≤ f2
          · rw [if_pos hle] at HS
            have t0 : decide (f1 ≤ f2) = true := decide_eq_true hle
            clear hle
            go_upto_region 10 with fail
            refine wp_region_later (by kernel_rfl) (by kernel_rfl) ?_
            repeat (go_big_quiet_step (first | (with_reducible exact K1.out _) | (with_reducible exact K2.out _)))
            (refine wpQuiet_nil ?_; rintro wl ⟨L_, hwl_⟩; have hbl := L_.h; rw [← hwl_] at hbl; clear hwl_ L_)
            clear K1 K2 q1 d1
            go_wp2
            go_roundw
            case rel => exact ⟨j + 1, by omega, by go_num, by rw [HS.out], hbj.trans (hbl.mono hbj.size)⟩
            case measure => simp [intOf]; omega
          · rw [if_neg hle] at HS
            have t0 : decide (f1 ≤ f2) = false := decide_eq_false hle
            clear hle
            go_upto_region 10 with fail
            refine wp_region_later (by kernel_rfl) (by kernel_rfl) ?_
            repeat (go_big_quiet_step (first | (with_reducible exact K1.out _) | (with_reducible exact K2.out _)))
            (refine wpQuiet_nil ?_; rintro wl ⟨L_, hwl_⟩; have hbl := L_.h; rw [← hwl_] at hbl; clear hwl_ L_)
            clear K1 K2 q1 d1
            go_wp2
            go_roundw
            case rel => exact ⟨j + 1, by omega, by go_num, by rw [HS.out], hbj.trans (hbl.mono hbj.size)⟩
            case measure => simp [intOf]; omega
        · obtain rfl : j = left.length := by omega
          have z5 := hbj.size
          replace ho := (ho.belowW hbj).mono (Nat.le_refl _) z5
          replace hl := hl.belowW hbj
          replace hb := hb.trans (hbj.mono hb.size)
          have wl := worstTo_lt (wf left) left left.length hlt
          have HW : Hid (worst wf left = worstTo (wf left) left left.length) := rfl
          generalize worstTo (wf left) left left.length = at_ at *
          have d1 := hl.cellAt at_ wl
          have i1 : (at_ : Int) < (left.length : Int) := by omega
          have z6 := hb.size
          clear hbj
          go_wp2_with (at_builtin; refine wpList_append_int _ rfl _ _ rfl (w2.heap.size) _ (os.length) _ _ _ rfl (ho.alloc _) (ix left at_) _ 1 rfl (new_cell _ _ _ rfl) (by omega) (by simp; omega) (by simp; omega) ?_)
          intro A7 c7 w7 o7 on7
          have hl7 := (hl.alloc (.cells #[.int .i64 (ix left at_)] 3)).only on7 (.inl (by omega))
          have hb7 := (hb.alloc z6 (.cells #[.int .i64 (ix left at_)] 3)).trans (on7.toBelow z2 (by simp; omega))
          have z7 : w2.heap.size ≤ w7.heap.size := by have := on7.size; simp at this; omega
          clear d1 on7 hl ho hb
          go_wp2_with fail
          (with_reducible refine (delete5_any gl cl left.length at_ left w7 hl7 l5 wl).mono ?_)
          rintro e w8 ⟨rfl, hl8, on8⟩
          have ho8 := (o7.only on8 (.inr (by omega))).mono (Nat.le_refl _) on8.size
          have hb8 := hb7.trans (on8.toBelow gl1 hb7.size)
          have z8 := on8.size
          have el : (left.eraseIdx at_).length = left.length - 1 := by rw [List.length_eraseIdx, if_pos wl]
          have ol : (os ++ [ix left at_]).length = os.length + 1 := by simp
          have hT8 : Hid ((os ++ [ix left at_]) ++ elim wf (left.eraseIdx at_).length (left.eraseIdx at_) = T) := by
            show _ = _
            have h9 := hT.out
            rw [show left.length = (left.length - 1) + 1 by omega, elim, HW.out] at h9
            rw [List.append_assoc, el]
            exact h9
          have HE := Lib.hid el
          have HO := Lib.hid ol
          clear el ol hl7 o7 on8 hb7
          go_wp2
          go_roundw
          case rel =>
            refine ⟨left.eraseIdx at_, os ++ [ix left at_], A7, c7, cl, ?_, hT8, fun x hx => HM.out x (List.mem_of_mem_eraseIdx hx), by rw [HO.out], by rw [HE.out], by rw [HO.out]; exact ho8, by rw [HE.out]; exact hl8, hb8, by omega⟩
            rw [HE.out, HO.out]; have := hlenI.out; omega
          case measure => simp [lenOf]; omega
    · have l0 : left.length = 0 := by omega
      obtain rfl := List.length_eq_zero_iff.1 l0
      have e2 : os = T := by have := hT.out; simpa [elim] using this
      subst e2
      have ol : os.length = M := by simpa using hlen
      have hB5 := hB.trans (hb.mono hB.size)
      have OL := Lib.hid ol
      clear ol hlen l0
      go_wp2
      go_ret
      rw [← OL.out]
      exact ⟨_, _, rfl, ho.mono (by omega) (Nat.le_refl _), hB5⟩
end Go.Proofs.YtcjnjnegaoihoaaGreat
namespace Go.Proofs.YtcjnjnegaoihoaaGreat
set_option linter.unusedSimpArgs false
set_option linter.unusedVariables false
set_option linter.unusedVariables false
open Go.RowKit

def lastI (xs : List Int) : Int := if xs.length = 0 then -1 else ix xs (xs.length - 1)
theorem implLastOf (A : Option Addr) (n c : Nat) (xs : List Int) (w : World) (h : IntsAt w A n xs) (hn : n ≤ 1048576) :
    Calls Tryz.prog 69 #[.slice A n c] w fun e w' => e = .returned (.int .i64 (lastI xs)) ∧ w = w' := by
  obtain rfl := h.len
  unfold lastI
  by_cases h0 : xs.length = 0
  · rw [if_pos h0]
    go_enter Tryz.func69, Tryz.ntmps69
    go_wp2
    go_ret
    exact ⟨rfl, rfl⟩
  · rw [if_neg h0]
    obtain ⟨k, hk⟩ : ∃ k, xs.length = k + 1 := ⟨xs.length - 1, by omega⟩
    obtain ⟨b, o, rfl, _, hc⟩ := h.at_ (show 0 < xs.length by omega)
    have d := hc k (by omega)
    have e1 : xs.length - 1 = k := by omega
    rw [e1]
    have ew : IntKind.i64.wrap ((xs.length : Int) - 1) = (k : Int) := by rw [IntWalk.i64_in _ (by omega)]; omega
    have i1 : (k : Int) < (xs.length : Int) := by omega
    clear hc h
    have H0 : ((xs.length : Int) == 0) = false := by rw [beq_eq_false_iff_ne]; omega
    go_enter Tryz.func69, Tryz.ntmps69
    go_wp2
    go_ret
    exact ⟨rfl, rfl⟩
theorem implInstant (m : Int) (A : Option Addr) (n c : Nat) (vs : List Vt) (w : World) (h : VotesAt w A n vs) (hn : n ≤ 1048576) (hx : ∀ v ∈ vs, v.r.length ≤ 1048576) :
    Calls Tryz.prog 70 #[.agg #[.int .i64 m, .slice A n c]] w fun e w' => ∃ A' c', e = .returned (.slice A' (elimR (instF vs) m vs).length c') ∧ OwnI w' w.heap.size w'.heap.size (.slice A' (elimR (instF vs) m vs).length c') (elimR (instF vs) m vs) ∧ Below w.heap.size w w' := by
  obtain rfl := h.len
  have hB := alloc_below w (.cells #[.int .i64 m, .slice A vs.length c] 31)
  obtain ⟨x0, x1⟩ := PBox.new w m A vs.length c 31 rfl
  replace h := h.below hB
  generalize hw0 : w.alloc (.cells #[.int .i64 m, .slice A vs.length c] 31) = w0 at *
  have K := Lib.hid (implEliminated 110 #[.pointer (some ⟨w.heap.size, 0, none⟩)] (instF vs) m A vs.length c vs _ h hn hx (enters Tryz.func110 (by kernel_rfl) rfl) (fun hp left a L lc W l5 _ hl hb => by
    have F := pf_of hp
    have h' := h.below hb
    have x0' := cell_carry hb x0
    have x1' := cell_carry hb x1
    have hB := Below.refl W.heap.size W
    have K := Lib.hid (implFirstOf m A vs.length c vs L left.length lc left a W h' F hl (by omega))
    unfold instF
    clear x0 x1 h h' hw0
    go_enter Tryz.func110, Tryz.ntmps110
    go_wp2_with fail
    (with_reducible refine (K.out).mono ?_)
    rintro e w1 ⟨rfl, b1⟩
    replace hB := hB.trans (b1.mono hB.size)
    clear b1
    go_wp2
    go_ret
    exact ⟨rfl, hB⟩))
  generalize elimR (instF vs) m vs = T at *
  go_enter Tryz.func70, Tryz.ntmps70
  go_wp2_with fail
  (with_reducible refine K.out.mono ?_)
  rintro e w1 ⟨A1, c1, rfl, o1, b1⟩
  go_wp2
  go_ret
  exact ⟨_, _, rfl, o1.mono hB.size (Nat.le_refl _), hB.trans (b1.mono hB.size)⟩
theorem implCoombs (m : Int) (A : Option Addr) (n c : Nat) (vs : List Vt) (w : World) (h : VotesAt w A n vs) (hn : n ≤ 1048576) (hx : ∀ v ∈ vs, v.r.length ≤ 1048576) :
    Calls Tryz.prog 71 #[.agg #[.int .i64 m, .slice A n c]] w fun e w' => ∃ A' c', e = .returned (.slice A' (elimR (coomF vs) m vs).length c') ∧ OwnI w' w.heap.size w'.heap.size (.slice A' (elimR (coomF vs) m vs).length c') (elimR (coomF vs) m vs) ∧ Below w.heap.size w w' := by
  obtain rfl := h.len
  have hB := alloc_below w (.cells #[.int .i64 m, .slice A vs.length c] 31)
  obtain ⟨x0, x1⟩ := PBox.new w m A vs.length c 31 rfl
  replace h := h.below hB
  generalize hw0 : w.alloc (.cells #[.int .i64 m, .slice A vs.length c] 31) = w0 at *
  have K := Lib.hid (implEliminated 112 #[.pointer (some ⟨w.heap.size, 0, none⟩)] (coomF vs) m A vs.length c vs _ h hn hx (enters Tryz.func112 (by kernel_rfl) rfl) (fun hp left a L lc W l5 _ hl hb => by
    have F := pf_of hp
    have h' := h.below hb
    have x0' := cell_carry hb x0
    have x1' := cell_carry hb x1
    have hB := Below.refl W.heap.size W
    have K := Lib.hid (implLastOfP m A vs.length c vs L left.length lc left a W h' F hl (by omega))
    have bd : 0 ≤ lastN vs left a ∧ lastN vs left a ≤ 24000 := vts_bd F.c F.n
    unfold coomF
    generalize lastN vs left a = y at *
    have ew : IntKind.i64.wrap (-y) = -y := IntWalk.i64_in _ (by omega)
    clear x0 x1 h h' hw0
    go_enter Tryz.func112, Tryz.ntmps112
    go_wp2_with fail
    (with_reducible refine (K.out).mono ?_)
    rintro e w1 ⟨rfl, b1⟩
    replace hB := hB.trans (b1.mono hB.size)
    clear b1
    go_wp2
    go_ret
    exact ⟨rfl, hB⟩))
  generalize elimR (coomF vs) m vs = T at *
  go_enter Tryz.func71, Tryz.ntmps71
  go_wp2_with fail
  (with_reducible refine K.out.mono ?_)
  rintro e w1 ⟨A1, c1, rfl, o1, b1⟩
  go_wp2
  go_ret
  exact ⟨_, _, rfl, o1.mono hB.size (Nat.le_refl _), hB.trans (b1.mono hB.size)⟩
theorem pairN_bd {m : Int} {vs : List Vt} (F : PF m vs) (a : Int) (left : List Int) : ∀ k, 0 ≤ pairN vs a left k ∧ pairN vs a left k ≤ 24000 * k
  | 0 => by simp [pairN]
  | k + 1 => by
    have ih := pairN_bd F a left k
    have := pair_bd F a (ix left k)
    rw [pairN]; omega
set_option maxHeartbeats 400000 in
theorem baldwin1 (m : Int) (A : Option Addr) (c g : Nat) (vs : List Vt) (L : Option Addr) (lc : Nat) (left : List Int) (a : Int) (W : World) (h : VotesAt W A vs.length vs) (F : PF m vs) (x0 : W.cell? ⟨g, 0, none⟩ = some (.int .i64 m)) (x1 : W.cell? ⟨g, 1, none⟩ = some (.slice A vs.length c))
    (hl : IntsAt W L left.length left) (l5 : left.length ≤ 5) :
    Calls Tryz.prog 114 #[.slice L left.length lc, .int .i64 a, .pointer (some ⟨g, 0, none⟩)] W fun e W' => e = .returned (.int .i64 (baldN vs left a)) ∧ Below W.heap.size W W' := by
  unfold baldN
  obtain ⟨T, hT⟩ : ∃ T, pairN vs a left left.length = T := ⟨_, rfl⟩
  rw [hT]
  have HT := Lib.hid hT
  clear hT
  go_enter Tryz.func114, Tryz.ntmps114
  go_wp2
  go_loopw [6, 8, 11] (fun s _ i wr => ∃ k : Nat, k ≤ left.length ∧ i = .int .i64 k ∧ s = .int .i64 (pairN vs a left k) ∧ Below W.heap.size W wr) (fun _ _ i _ => left.length - (intOf i).toNat)
  case atStart => exact ⟨0, Nat.zero_le _, rfl, rfl, Below.refl _ _⟩
  case round =>
    obtain ⟨k, hk, rfl, rfl, hb⟩ := hrel
    by_cases hlt : k < left.length
    · have x0' := cell_carry hb x0
      have x1' := cell_carry hb x1
      obtain ⟨b, o, rfl, _, hc⟩ := (hl.below hb).at_ hlt
      have d := hc k hlt
      have K := Lib.hid (implPair m A vs.length c vs a (ix left k) wr (h.below hb) F)
      have HS : Hid (pairN vs a left (k + 1) = pairN vs a left k + pairP vs a (ix left k)) := rfl
      have b1 := pairN_bd F a left k
      have b2 := pair_bd F a (ix left k)
      generalize pairN vs a left k = s at *
      generalize pairP vs a (ix left k) = y at *
      generalize ix left k = x at *
      clear hc x0 x1 h hl
      have hB := hb
      clear hb
      go_wp2_with fail
      (with_reducible refine (K.out).mono ?_)
      rintro e w1 ⟨rfl, b1⟩
      replace hB := hB.trans (b1.mono hB.size)
      clear b1
      go_wp2
      go_roundw
      case rel => exact ⟨k + 1, by omega, by go_num, by rw [HS.out], hB⟩
      case measure => simp [intOf]; omega
    · obtain rfl : k = left.length := by omega
      rw [HT.out]
      go_wp2
      go_ret
      exact ⟨rfl, hb⟩
theorem implBaldwin (m : Int) (A : Option Addr) (n c : Nat) (vs : List Vt) (w : World) (h : VotesAt w A n vs) (hn : n ≤ 1048576) (hx : ∀ v ∈ vs, v.r.length ≤ 1048576) :
    Calls Tryz.prog 72 #[.agg #[.int .i64 m, .slice A n c]] w fun e w' => ∃ A' c', e = .returned (.slice A' (elimR (baldN vs) m vs).length c') ∧ OwnI w' w.heap.size w'.heap.size (.slice A' (elimR (baldN vs) m vs).length c') (elimR (baldN vs) m vs) ∧ Below w.heap.size w w' := by
  obtain rfl := h.len
  have hB := alloc_below w (.cells #[.int .i64 m, .slice A vs.length c] 31)
  obtain ⟨x0, x1⟩ := PBox.new w m A vs.length c 31 rfl
  replace h := h.below hB
  generalize hw0 : w.alloc (.cells #[.int .i64 m, .slice A vs.length c] 31) = w0 at *
  have K := Lib.hid (implEliminated 114 #[.pointer (some ⟨w.heap.size, 0, none⟩)] (baldN vs) m A vs.length c vs _ h hn hx (enters Tryz.func114 (by kernel_rfl) rfl) (fun hp left a L lc W l5 _ hl hb =>
    baldwin1 m A c w.heap.size vs L lc left a W (h.below hb) (pf_of hp) (cell_carry hb x0) (cell_carry hb x1) hl l5))
  generalize elimR (baldN vs) m vs = T at *
  go_enter Tryz.func72, Tryz.ntmps72
  go_wp2_with fail
  (with_reducible refine K.out.mono ?_)
  rintro e w1 ⟨A1, c1, rfl, o1, b1⟩
  go_wp2
  go_ret
  exact ⟨_, _, rfl, o1.mono hB.size (Nat.le_refl _), hB.trans (b1.mono hB.size)⟩
end Go.Proofs.YtcjnjnegaoihoaaGreat
namespace Go.Proofs.YtcjnjnegaoihoaaGreat
set_option linter.unusedSimpArgs false
set_option linter.unusedVariables false
set_option linter.unusedVariables false
open Go.RowKit

def quotaOk (xs : List Int) (k : Int) : Bool := countsOk xs && inB k 0 100
theorem quotaOk_facts {xs : List Int} {k : Int} (h : quotaOk xs k = true) : countsOk xs = true ∧ 0 ≤ k ∧ k ≤ 100 := by
  unfold quotaOk at h
  rw [Bool.and_eq_true, inB_iff] at h
  exact h
def lowF (t a : Int) : Int := t / a
def upF (t a : Int) : Int := (t + a - 1) / a
def remF (t a : Int) : Int := t % a
/-- of each count a number made of its claim and of all counts -/
def mapQ (f : Int → Int → Int) (s k : Int) (xs : List Int) : List Int := xs.map fun x => f (x * k) s
theorem mapQ_len (f : Int → Int → Int) (s k : Int) (xs : List Int) : (mapQ f s k xs).length = xs.length := by simp [mapQ]
theorem mapQ_take (f : Int → Int → Int) (s k : Int) {xs : List Int} {j : Nat} (h : j < xs.length) : mapQ f s k (xs.take (j + 1)) = mapQ f s k (xs.take j) ++ [f (ix xs j * k) s] := by
  rw [take_ix h]; simp [mapQ]
def quotasOf (f : Int → Int → Int) (xs : List Int) (k : Int) : List Int := if quotaOk xs k then mapQ f (lsum xs) k xs else []
theorem quotasOf_yes {f : Int → Int → Int} {xs : List Int} {k : Int} (h : quotaOk xs k = true) : quotasOf f xs k = mapQ f (lsum xs) k xs := by unfold quotasOf; rw [if_pos h]
theorem quotasOf_no {f : Int → Int → Int} {xs : List Int} {k : Int} (h : quotaOk xs k = false) : quotasOf f xs k = [] := by unfold quotasOf; rw [h]; rfl
theorem claim_bd {x k : Int} (h1 : 0 ≤ x ∧ x ≤ 1000000) (h2 : 0 ≤ k) (h3 : k ≤ 100) : 0 ≤ x * k ∧ x * k ≤ 100000000 := by
  have a1 := Int.mul_nonneg h1.1 h2
  have a2 := Int.mul_le_mul h1.2 h3 h2 (by omega)
  exact ⟨a1, by omega⟩
theorem counts_bd {xs : List Int} (h : countsOk xs = true) : ∀ x ∈ xs, 0 ≤ x ∧ x ≤ 1000000000 := fun x hx => by have := (countsOk_facts h).2.2.1 x hx; omega
theorem div_bd {t a : Int} (h0 : 0 ≤ t) (h1 : 1 ≤ a) : 0 ≤ t / a ∧ t / a ≤ t := ⟨Int.ediv_nonneg h0 (by omega), Int.ediv_le_self a h0⟩
theorem mod_bd {t a : Int} (h1 : 1 ≤ a) : 0 ≤ t % a ∧ t % a < a := ⟨Int.emod_nonneg t (by omega), Int.emod_lt_of_pos t (by omega)⟩

end Go.Proofs.YtcjnjnegaoihoaaGreat
namespace Go.Proofs.YtcjnjnegaoihoaaGreat
set_option linter.unusedSimpArgs false
set_option linter.unusedVariables false
set_option linter.unusedVariables false
open Go.RowKit

/-- what is left of a -/
def rv (rs : List Int) (a : Int) : Int := ix rs a.toNat
/-- a comes ahead of b -/
def bef (rs : List Int) (a b : Int) : Prop := rv rs b < rv rs a ∨ (rv rs a = rv rs b ∧ a < b)
theorem bef_asymm {rs : List Int} {a b : Int} (h1 : bef rs a b) (h2 : bef rs b a) : False := by unfold bef at h1 h2; omega
/-- where x goes among the first j of S, looked for from the right -/
def slide (rs S : List Int) (x : Int) : Nat → Nat
  | 0 => 0
  | j + 1 => if rv rs (ix S j) < rv rs x then slide rs S x j else j + 1
def insS (rs S : List Int) (x : Int) : List Int := S.take (slide rs S x S.length) ++ x :: S.drop (slide rs S x S.length)
def sortS (rs : List Int) : Nat → List Int
  | 0 => []
  | k + 1 => insS rs (sortS rs k) (k : Int)
theorem slide_le (rs S : List Int) (x : Int) : ∀ j, slide rs S x j ≤ j
  | 0 => Nat.le_refl _
  | j + 1 => by have := slide_le rs S x j; unfold slide; split <;> omega
theorem slide_right {rs S : List Int} {x : Int} : ∀ {j i : Nat}, slide rs S x j ≤ i → i < j → rv rs (ix S i) < rv rs x
  | 0, _, _, h => absurd h (by omega)
  | j + 1, i, h1, h2 => by
    unfold slide at h1
    split at h1
    · rename_i h
      by_cases e : i = j
      · subst e; exact h
      · exact slide_right h1 (by omega)
    · omega
theorem slide_left {rs S : List Int} {x : Int} : ∀ {j : Nat}, 0 < slide rs S x j → rv rs x ≤ rv rs (ix S (slide rs S x j - 1))
  | 0, h => absurd h (by simp [slide])
  | j + 1, h => by
    unfold slide at h ⊢
    split at h
    · rename_i h0
      rw [if_pos h0]
      exact slide_left h
    · rename_i h0
      rw [if_neg h0]
      simp only [Nat.add_sub_cancel]
      omega
theorem insS_perm (rs S : List Int) (x : Int) : (insS rs S x).Perm (S ++ [x]) := by
  unfold insS
  refine (List.perm_middle).trans ?_
  rw [List.take_append_drop]
  exact (List.perm_append_comm (l₁ := [x]) (l₂ := S))
theorem sortS_perm (rs : List Int) : ∀ k, (sortS rs k).Perm (upE k)
  | 0 => List.Perm.refl _
  | k + 1 => by
    have e : upE (k + 1) = upE k ++ [(k : Int)] := by unfold upE; rw [List.range_succ, List.map_append]; rfl
    rw [e]
    exact (insS_perm _ _ _).trans ((sortS_perm rs k).append_right _)
theorem sortS_len (rs : List Int) (k : Nat) : (sortS rs k).length = k := by rw [(sortS_perm rs k).length_eq, upE_len]
theorem sortS_mem {rs : List Int} {k : Nat} {x : Int} : x ∈ sortS rs k ↔ 0 ≤ x ∧ x < k := by
  rw [(sortS_perm rs k).mem_iff]
  constructor
  · intro h
    obtain ⟨j, hj, rfl⟩ := upE_mem h
    omega
  · intro h
    unfold upE
    exact List.mem_map.2 ⟨x.toNat, List.mem_range.2 (by omega), by omega⟩
theorem sortS_at {rs : List Int} {k j : Nat} (h : j < k) : 0 ≤ ix (sortS rs k) j ∧ ix (sortS rs k) j < k := sortS_mem.1 (ix_mem (by rw [sortS_len]; exact h))
theorem insS_sorted {rs S : List Int} {x : Int} (hs : S.Pairwise (bef rs)) (hx : ∀ y ∈ S, y < x) : (insS rs S x).Pairwise (bef rs) := by
  have hp := slide_le rs S x S.length
  have hr := @slide_right rs S x S.length
  have hl := @slide_left rs S x S.length
  unfold insS
  generalize slide rs S x S.length = p at *
  have hi := List.pairwise_iff_getElem.1 hs
  have hS := hs
  rw [← List.take_append_drop p S, List.pairwise_append] at hS
  rw [List.pairwise_append, List.pairwise_cons]
  refine ⟨hS.1, ⟨fun b hb => ?_, hS.2.1⟩, fun a ha b hb => ?_⟩
  · obtain ⟨j, hj, rfl⟩ := List.getElem_of_mem hb
    rw [List.length_drop] at hj
    have := hr (i := p + j) (by omega) (by omega)
    rw [ix_lt (show p + j < S.length by omega)] at this
    rw [List.getElem_drop]
    exact .inl this
  · rcases List.mem_cons.1 hb with rfl | hb
    · have hay := hx a (List.mem_of_mem_take ha)
      obtain ⟨j, hj, rfl⟩ := List.getElem_of_mem ha
      rw [List.length_take] at hj
      have h1 := hl (by omega)
      rw [ix_lt (show p - 1 < S.length by omega)] at h1
      rw [List.getElem_take] at hay ⊢
      by_cases e : j = p - 1
      · subst e
        unfold bef; omega
      · have := hi j (p - 1) (by omega) (by omega) (by omega)
        unfold bef at this ⊢
        omega
    · exact hS.2.2 a ha b hb
theorem sortS_sorted (rs : List Int) : ∀ k, (sortS rs k).Pairwise (bef rs)
  | 0 => List.Pairwise.nil
  | k + 1 => insS_sorted (sortS_sorted rs k) fun y hy => (sortS_mem.1 hy).2
theorem sortS_bef {rs : List Int} {k i j : Nat} (h : i < j) (hj : j < k) : bef rs (ix (sortS rs k) i) (ix (sortS rs k) j) := by
  have hl := sortS_len rs k
  rw [ix_lt (show i < (sortS rs k).length by omega), ix_lt (show j < (sortS rs k).length by omega)]
  exact List.pairwise_iff_getElem.1 (sortS_sorted rs k) i j (by omega) (by omega) h
/-- the row while x is on its way: it stands at place j -/
def way (S : List Int) (x : Int) (tail : List Int) (j : Nat) : List Int := S.take j ++ x :: (S.drop j ++ tail)
theorem way_len {S tail : List Int} {x : Int} {j : Nat} (h : j ≤ S.length) : (way S x tail j).length = S.length + 1 + tail.length := by unfold way; simp; omega
theorem way_at {S tail : List Int} {x : Int} {j : Nat} (h : j ≤ S.length) : ix (way S x tail j) j = x := by
  rw [ix_lt (by rw [way_len h]; omega)]
  unfold way
  rw [List.getElem_append_right (by simp; omega)]
  simp [Nat.min_eq_left h]
theorem way_left {S tail : List Int} {x : Int} {j : Nat} (h : j < S.length) : ix (way S x tail (j + 1)) j = ix S j := by
  rw [ix_lt (by rw [way_len (by omega)]; omega), ix_lt h]
  unfold way
  rw [List.getElem_append_left (by simp; omega)]
  simp
theorem way_step {S tail : List Int} {x : Int} {j : Nat} (h : j < S.length) : ((way S x tail (j + 1)).set (j + 1) (ix S j)).set j x = way S x tail j := by
  have e1 : S.take (j + 1) = S.take j ++ [ix S j] := take_ix h
  have e2 : S.drop j = ix S j :: S.drop (j + 1) := by rw [ix_lt h]; exact List.drop_eq_getElem_cons h
  have e3 : (S.take j).length = j := by simp; omega
  unfold way
  rw [e1, e2]
  generalize S.take j = a at *
  generalize S.drop (j + 1) = b at *
  subst e3
  simp
theorem way_start {S tail : List Int} {x : Int} : way S x tail S.length = S ++ x :: tail := by unfold way; simp
theorem way_end {rs S tail : List Int} {x : Int} : way S x tail (slide rs S x S.length) = insS rs S x ++ tail := by unfold way insS; simp
def tailE (n k : Nat) : List Int := (upE n).drop k
theorem tailE_step {n k : Nat} (h : k < n) : tailE n k = (k : Int) :: tailE n (k + 1) := by
  unfold tailE
  rw [List.drop_eq_getElem_cons (by rw [upE_len]; exact h)]
  congr 1
  simp [upE]
/-- the seats after t more are given in the order T -/
def giveTo (seats T : List Int) : Nat → List Int
  | 0 => seats
  | t + 1 => (giveTo seats T t).set (ix T t).toNat (ix (giveTo seats T t) (ix T t).toNat + 1)
theorem giveTo_len (seats T : List Int) (t : Nat) : (giveTo seats T t).length = seats.length := by
  induction t with
  | zero => rfl
  | succ t ih => rw [giveTo, List.length_set]; exact ih
theorem lsum_set {xs : List Int} {j : Nat} {v : Int} (h : j < xs.length) : lsum (xs.set j v) = lsum xs + (v - ix xs j) := by
  induction xs generalizing j with
  | nil => simp at h
  | cons y ys ih =>
    cases j with
    | zero => simp [lsum, ix]; omega
    | succ j =>
      have := ih (j := j) (by simpa using h)
      simp only [List.set_cons_succ, lsum, this]
      have e : ix (y :: ys) (j + 1) = ix ys j := by unfold ix; simp
      rw [e]; omega
theorem giveTo_sum {seats T : List Int} {t : Nat} (h : ∀ i, i < t → 0 ≤ ix T i ∧ ix T i < seats.length) : lsum (giveTo seats T t) = lsum seats + t := by
  induction t with
  | zero => simp [giveTo]
  | succ t ih =>
    have := h t (by omega)
    rw [giveTo, lsum_set (by rw [giveTo_len]; omega), ih (fun i hi => h i (by omega))]
    omega
theorem giveTo_bd {seats T : List Int} {m : Int} {t : Nat} (hs : ∀ i, i < seats.length → 0 ≤ ix seats i ∧ ix seats i ≤ m) (h : ∀ i, i < t → 0 ≤ ix T i ∧ ix T i < seats.length) : ∀ i, i < seats.length → 0 ≤ ix (giveTo seats T t) i ∧ ix (giveTo seats T t) i ≤ m + t := by
  induction t with
  | zero => intro i hi; have := hs i hi; simp only [giveTo]; omega
  | succ t ih =>
    intro i hi
    have h0 := h t (by omega)
    have h1 := ih (fun i hi => h i (by omega)) i hi
    have h2 := ih (fun i hi => h i (by omega)) (ix T t).toNat (by omega)
    have hl := giveTo_len seats T t
    by_cases e : i = (ix T t).toNat
    · subst e
      rw [giveTo, ix_lt (by rw [List.length_set, hl]; omega), List.getElem_set_self]
      omega
    · rw [giveTo, ix_lt (by rw [List.length_set, hl]; omega), List.getElem_set_ne (by omega), ← ix_lt (by rw [hl]; omega)]
      omega
/-- the greatest among those that are not used, as the reference looks for it: among the first k -/
def bestTo (rs : List Int) (u : Nat → Bool) : Nat → Int
  | 0 => -1
  | k + 1 => if !u k && (decide (bestTo rs u k < 0) || decide (rv rs (bestTo rs u k) < ix rs k)) then (k : Int) else bestTo rs u k
theorem best_inv (rs : List Int) (u : Nat → Bool) : ∀ k, (bestTo rs u k = -1 ∧ ∀ i, i < k → u i = true) ∨ ∃ b : Nat, bestTo rs u k = b ∧ b < k ∧ u b = false ∧ ∀ i, i < k → u i = false → i ≠ b → bef rs b i
  | 0 => .inl ⟨rfl, fun i h => absurd h (by omega)⟩
  | k + 1 => by
    have e : rv rs (k : Int) = ix rs k := by unfold rv; simp
    cases hu : u k
    · rcases best_inv rs u k with ⟨h1, h2⟩ | ⟨b, h1, h2, h3, h4⟩
      · right
        refine ⟨k, by rw [bestTo, hu, h1]; rfl, by omega, hu, fun i hi hui hne => ?_⟩
        have := h2 i (by omega)
        rw [this] at hui
        cases hui
      · by_cases hlt : rv rs (b : Int) < ix rs k
        · right
          refine ⟨k, by rw [bestTo, hu, h1, decide_eq_true hlt]; simp, by omega, hu, fun i hi hui hne => ?_⟩
          by_cases eb : i = b
          · subst eb
            left; rw [e]; exact hlt
          · have := h4 i (by omega) hui eb
            left
            rw [e]
            unfold bef at this
            omega
        · right
          refine ⟨b, by rw [bestTo, hu, h1, decide_eq_false hlt, decide_eq_false (by omega)]; rfl, by omega, h3, fun i hi hui hne => ?_⟩
          by_cases ek : i = k
          · subst ek
            unfold bef
            rw [e]
            omega
          · exact h4 i (by omega) hui hne
    · have e2 : bestTo rs u (k + 1) = bestTo rs u k := by rw [bestTo, hu]; rfl
      rw [e2]
      rcases best_inv rs u k with ⟨h1, h2⟩ | ⟨b, h1, h2, h3, h4⟩
      · left
        refine ⟨h1, fun i hi => ?_⟩
        by_cases ek : i = k
        · rw [ek]; exact hu
        · exact h2 i (by omega)
      · right
        refine ⟨b, h1, by omega, h3, fun i hi hui hne => ?_⟩
        by_cases ek : i = k
        · subst ek; rw [hu] at hui; cases hui
        · exact h4 i (by omega) hui hne
def usedB (T : List Int) (t : Nat) (j : Nat) : Bool := has (T.take t) (j : Int)
theorem best_next {rs : List Int} {n t : Nat} (h : t < n) : bestTo rs (usedB (sortS rs n) t) n = ix (sortS rs n) t := by
  have hl := sortS_len rs n
  have hnd : (sortS rs n).Pairwise (· ≠ ·) := (sortS_sorted rs n).imp fun h e => by subst e; exact bef_asymm h h
  have ht := sortS_at (rs := rs) h
  have huu : ∀ j : Nat, j < n → (usedB (sortS rs n) t j = true ↔ ∃ i, i < t ∧ ix (sortS rs n) i = (j : Int)) := by
    intro j hj
    unfold usedB
    rw [has_iff]
    constructor
    · intro hm
      obtain ⟨i, hi, e⟩ := List.getElem_of_mem hm
      rw [List.length_take] at hi
      rw [List.getElem_take] at e
      exact ⟨i, by omega, by rw [ix_lt (by omega)]; exact e⟩
    · rintro ⟨i, hi, e⟩
      rw [ix_lt (by omega)] at e
      exact List.mem_iff_getElem.2 ⟨i, by rw [List.length_take]; omega, by rw [List.getElem_take]; exact e⟩
  have hne : ∀ i, i < n → i ≠ t → ix (sortS rs n) i ≠ ix (sortS rs n) t := by
    intro i hi hit e
    rcases Nat.lt_or_gt_of_ne hit with hlt | hlt
    · have := sortS_bef (rs := rs) hlt h
      rw [e] at this
      exact bef_asymm this this
    · have := sortS_bef (rs := rs) hlt hi
      rw [e] at this
      exact bef_asymm this this
  obtain ⟨j, hj⟩ : ∃ j : Nat, ix (sortS rs n) t = (j : Int) := ⟨(ix (sortS rs n) t).toNat, by omega⟩
  have hjn : j < n := by omega
  have hju : usedB (sortS rs n) t j = false := by
    cases hc : usedB (sortS rs n) t j
    · rfl
    · obtain ⟨i, hi, e⟩ := (huu j hjn).1 hc
      exact absurd (e.trans hj.symm) (hne i (by omega) (by omega))
  rw [hj]
  rcases best_inv rs (usedB (sortS rs n) t) n with ⟨_, h2⟩ | ⟨b, h1, h2, h3, h4⟩
  · rw [h2 j hjn] at hju; cases hju
  · rw [h1]
    by_cases e : j = b
    · rw [e]
    · exfalso
      have hb := h4 j hjn hju e
      have hbm : (b : Int) ∈ sortS rs n := sortS_mem.2 ⟨by omega, by omega⟩
      obtain ⟨s, hs, es⟩ := List.getElem_of_mem hbm
      rw [hl] at hs
      rw [← ix_lt (by omega)] at es
      have hst : t < s := by
        rcases Nat.lt_trichotomy t s with h0 | h0 | h0
        · exact h0
        · subst h0; omega
        · have := (huu b h2).2 ⟨s, h0, es⟩
          rw [this] at h3; cases h3
      have := sortS_bef (rs := rs) hst hs
      rw [hj, es] at this
      exact bef_asymm this hb
end Go.Proofs.YtcjnjnegaoihoaaGreat
