/- Elimination, the program's side: firstOf, lastOf, eliminated and the three orders. The three orders of elimination and the last of a list, the program's side. -/
import Derived.Test.YtaanppihgldeaaaGreatDoorW07
import Derived.Test.YtaanppihgldeaaaGreatDoorW08
import Derived.Test.YtaanppihgldeaaaGreatDoorW02
namespace Go.Proofs.YtaanppihgldeaaaGreatDoor
set_option linter.unusedSimpArgs false
set_option linter.unusedVariables false
set_option linter.unusedVariables false
open Go.RowKit

def firstP (left r : List Int) (a : Int) : Bool := !(left.any fun b => pref r b a)
def lastP (left r : List Int) (a : Int) : Bool := !(left.any fun b => pref r a b)
def firstN (vs : List Vt) (left : List Int) (a : Int) : Int := vts (fun r => firstP left r a) vs
def lastN (vs : List Vt) (left : List Int) (a : Int) : Int := vts (fun r => lastP left r a) vs
def pairN (vs : List Vt) (a : Int) (left : List Int) : Nat → Int
  | 0 => 0
  | k + 1 => pairN vs a left k + pairP vs a (ix left k)
def baldN (vs : List Vt) (left : List Int) (a : Int) : Int := pairN vs a left left.length
theorem firstOf1 (left r : List Int) (a : Int) (L A' : Option Addr) (lc c' g1 g2 : Nat) (W : World) (y0 : W.cell? ⟨g1, 0, none⟩ = some (.slice L left.length lc)) (z0 : W.cell? ⟨g2, 0, none⟩ = some (.int .i64 a))
    (hl : IntsAt W L left.length left) (hll : left.length ≤ 1048576) (hr : IntsAt W A' r.length r) (hrl : r.length ≤ 1048576) :
    Calls Tryz.prog 167 #[.slice A' r.length c', .pointer (some ⟨g1, 0, none⟩), .pointer (some ⟨g2, 0, none⟩)] W fun e W' => e = .returned (.bool (firstP left r a)) ∧ Below W.heap.size W W' := by
  have hB := alloc_below W (.cells #[.slice A' r.length c'] 27)
  have x0 := new_cell W (.slice A' r.length c') 27 rfl
  replace y0 := cell_carry hB y0
  replace z0 := cell_carry hB z0
  replace hl := hl.below hB
  replace hr := hr.below hB
  generalize hw0 : W.alloc (.cells #[.slice A' r.length c'] 27) = w0 at *
  have K := Lib.hid (containsFunc_any 169 #[.pointer (some ⟨W.heap.size, 0, none⟩), .pointer (some ⟨g2, 0, none⟩)] (fun b => pref r b a) L left.length lc left w0 hl (by omega) (enters Tryz.func169 (by kernel_rfl) rfl) (fun b W1 _ hb => by
    replace x0 := cell_carry hb x0
    replace z0 := cell_carry hb z0
    replace hr := hr.below hb
    clear y0
    go_enter Tryz.func169, Tryz.ntmps169
    go_wp2_with fail
    (with_reducible refine (implPrefers A' _ c' r b a _ hr (by omega)).mono ?_)
    rintro e w1 ⟨rfl, rfl⟩
    go_wp2
    go_ret
    exact ⟨rfl, Below.refl _ _⟩))
  unfold firstP
  generalize left.any (fun b => pref r b a) = q at *
  go_enter Tryz.func167, Tryz.ntmps167
  go_wp2_with fail
  (with_reducible refine (K.out).mono ?_)
  rintro e w1 ⟨rfl, b1⟩
  replace hB := hB.trans (b1.mono hB.size)
  clear b1
  go_wp2
  go_ret
  exact ⟨rfl, hB⟩
theorem lastOf1 (left r : List Int) (a : Int) (L A' : Option Addr) (lc c' g1 g2 : Nat) (W : World) (y0 : W.cell? ⟨g1, 0, none⟩ = some (.slice L left.length lc)) (z0 : W.cell? ⟨g2, 0, none⟩ = some (.int .i64 a))
    (hl : IntsAt W L left.length left) (hll : left.length ≤ 1048576) (hr : IntsAt W A' r.length r) (hrl : r.length ≤ 1048576) :
    Calls Tryz.prog 170 #[.slice A' r.length c', .pointer (some ⟨g1, 0, none⟩), .pointer (some ⟨g2, 0, none⟩)] W fun e W' => e = .returned (.bool (lastP left r a)) ∧ Below W.heap.size W W' := by
  have hB := alloc_below W (.cells #[.slice A' r.length c'] 27)
  have x0 := new_cell W (.slice A' r.length c') 27 rfl
  replace y0 := cell_carry hB y0
  replace z0 := cell_carry hB z0
  replace hl := hl.below hB
  replace hr := hr.below hB
  generalize hw0 : W.alloc (.cells #[.slice A' r.length c'] 27) = w0 at *
  have K := Lib.hid (containsFunc_any 171 #[.pointer (some ⟨W.heap.size, 0, none⟩), .pointer (some ⟨g2, 0, none⟩)] (fun b => pref r a b) L left.length lc left w0 hl (by omega) (enters Tryz.func171 (by kernel_rfl) rfl) (fun b W1 _ hb => by
    replace x0 := cell_carry hb x0
    replace z0 := cell_carry hb z0
    replace hr := hr.below hb
    clear y0
    go_enter Tryz.func171, Tryz.ntmps171
    go_wp2_with fail
    (with_reducible refine (implPrefers A' _ c' r a b _ hr (by omega)).mono ?_)
    rintro e w1 ⟨rfl, rfl⟩
    go_wp2
    go_ret
    exact ⟨rfl, Below.refl _ _⟩))
  unfold lastP
  generalize left.any (fun b => pref r a b) = q at *
  go_enter Tryz.func170, Tryz.ntmps170
  go_wp2_with fail
  (with_reducible refine (K.out).mono ?_)
  rintro e w1 ⟨rfl, b1⟩
  replace hB := hB.trans (b1.mono hB.size)
  clear b1
  go_wp2
  go_ret
  exact ⟨rfl, hB⟩
set_option maxHeartbeats 400000 in
theorem implFirstOf (m : Int) (A : Option Addr) (n c : Nat) (vs : List Vt) (L : Option Addr) (l lc : Nat) (left : List Int) (a : Int) (w : World) (h : VotesAt w A n vs) (F : PF m vs) (hl : IntsAt w L l left) (hll : l ≤ 1048576) :
    Calls Tryz.prog 109 #[.agg #[.int .i64 m, .slice A n c], .slice L l lc, .int .i64 a] w fun e w' => e = .returned (.int .i64 (firstN vs left a)) ∧ Below w.heap.size w w' := by
  have hl0 := hl.below (alloc_below w (.cells #[.int .i64 m, .slice A n c] 24))
  obtain rfl := hl.len
  clear hl
  obtain rfl := h.len
  have hB := alloc_below w (.cells #[.int .i64 m, .slice A vs.length c] 24)
  obtain ⟨x0, x1⟩ := PBox.new w m A vs.length c 24 rfl
  replace h := h.below hB
  generalize hw0 : w.alloc (.cells #[.int .i64 m, .slice A vs.length c] 24) = w0 at *
  have s0 : w0.heap.size = w.heap.size + 1 := by rw [← hw0]; simp
  have b1 := alloc_below w0 (.cells #[.slice L left.length lc] 27)
  have y0 := new_cell w0 (.slice L left.length lc) 27 s0.symm
  have b2 := alloc_below (w0.alloc (.cells #[.slice L left.length lc] 27)) (.cells #[.int .i64 a] 3)
  have z0 := new_cell (w0.alloc (.cells #[.slice L left.length lc] 27)) (.int .i64 a) 3 (g := w.heap.size + 2) (by simp; omega)
  replace y0 := cell_carry b2 y0
  have b3 := b1.trans (b2.mono b1.size)
  replace x0 := cell_carry b3 x0
  replace x1 := cell_carry b3 x1
  replace hl0 := hl0.below b3
  replace h := h.below b3
  replace hB := hB.trans (b3.mono hB.size)
  clear b1 b2 b3
  have S0 := Lib.hid s0
  generalize hw1 : (w0.alloc (.cells #[.slice L left.length lc] 27)).alloc (.cells #[.int .i64 a] 3) = w1 at *
  have K := Lib.hid (implVoters 167 #[.pointer (some ⟨w.heap.size + 1, 0, none⟩), .pointer (some ⟨w.heap.size + 2, 0, none⟩)] (fun r => firstP left r a) m A vs.length c vs w1 h F.n F.c (enters Tryz.func167 (by kernel_rfl) rfl)
    (fun A' c' v W hv hin hcc hb => firstOf1 left v.r a L A' lc c' _ _ W (cell_carry hb y0) (cell_carry hb z0) (hl0.below hb) hll hin (by have := F.l v hv; have := F.m5; omega)))
  unfold firstN
  go_enter Tryz.func109, Tryz.ntmps109
  go_wp2_with fail
  (with_reducible refine (K.out).mono ?_)
  rintro e w1 ⟨rfl, b1⟩
  replace hB := hB.trans (b1.mono hB.size)
  clear b1
  go_wp2
  go_ret
  exact ⟨rfl, hB⟩
set_option maxHeartbeats 400000 in
theorem implLastOfP (m : Int) (A : Option Addr) (n c : Nat) (vs : List Vt) (L : Option Addr) (l lc : Nat) (left : List Int) (a : Int) (w : World) (h : VotesAt w A n vs) (F : PF m vs) (hl : IntsAt w L l left) (hll : l ≤ 1048576) :
    Calls Tryz.prog 111 #[.agg #[.int .i64 m, .slice A n c], .slice L l lc, .int .i64 a] w fun e w' => e = .returned (.int .i64 (lastN vs left a)) ∧ Below w.heap.size w w' := by
  have hl0 := hl.below (alloc_below w (.cells #[.int .i64 m, .slice A n c] 24))
  obtain rfl := hl.len
  clear hl
  obtain rfl := h.len
  have hB := alloc_below w (.cells #[.int .i64 m, .slice A vs.length c] 24)
  obtain ⟨x0, x1⟩ := PBox.new w m A vs.length c 24 rfl
  replace h := h.below hB
  generalize hw0 : w.alloc (.cells #[.int .i64 m, .slice A vs.length c] 24) = w0 at *
  have s0 : w0.heap.size = w.heap.size + 1 := by rw [← hw0]; simp
  have b1 := alloc_below w0 (.cells #[.slice L left.length lc] 27)
  have y0 := new_cell w0 (.slice L left.length lc) 27 s0.symm
  have b2 := alloc_below (w0.alloc (.cells #[.slice L left.length lc] 27)) (.cells #[.int .i64 a] 3)
  have z0 := new_cell (w0.alloc (.cells #[.slice L left.length lc] 27)) (.int .i64 a) 3 (g := w.heap.size + 2) (by simp; omega)
  replace y0 := cell_carry b2 y0
  have b3 := b1.trans (b2.mono b1.size)
  replace x0 := cell_carry b3 x0
  replace x1 := cell_carry b3 x1
  replace hl0 := hl0.below b3
  replace h := h.below b3
  replace hB := hB.trans (b3.mono hB.size)
  clear b1 b2 b3
  have S0 := Lib.hid s0
  generalize hw1 : (w0.alloc (.cells #[.slice L left.length lc] 27)).alloc (.cells #[.int .i64 a] 3) = w1 at *
  have K := Lib.hid (implVoters 170 #[.pointer (some ⟨w.heap.size + 1, 0, none⟩), .pointer (some ⟨w.heap.size + 2, 0, none⟩)] (fun r => lastP left r a) m A vs.length c vs w1 h F.n F.c (enters Tryz.func170 (by kernel_rfl) rfl)
    (fun A' c' v W hv hin hcc hb => lastOf1 left v.r a L A' lc c' _ _ W (cell_carry hb y0) (cell_carry hb z0) (hl0.below hb) hll hin (by have := F.l v hv; have := F.m5; omega)))
  unfold lastN
  go_enter Tryz.func111, Tryz.ntmps111
  go_wp2_with fail
  (with_reducible refine (K.out).mono ?_)
  rintro e w1 ⟨rfl, b1⟩
  replace hB := hB.trans (b1.mono hB.size)
  clear b1
  go_wp2
  go_ret
  exact ⟨rfl, hB⟩
def instF (vs : List Vt) (left : List Int) (a : Int) : Int := firstN vs left a
def coomF (vs : List Vt) (left : List Int) (a : Int) : Int := -lastN vs left a
/-- the place of the last one with the least worth among the first k that are left -/
def worstTo (f : Int → Int) (left : List Int) : Nat → Nat
  | 0 => 0
  | k + 1 => if f (ix left k) ≤ f (ix left (worstTo f left k)) then k else worstTo f left k
theorem worstTo_lt (f : Int → Int) (left : List Int) : ∀ k, 0 < k → worstTo f left k < k
  | 0, h => absurd h (by omega)
  | k + 1, _ => by
    rw [worstTo]
    split
    · omega
    · rcases Nat.eq_zero_or_pos k with e | e
      · subst e; simp [worstTo]
      · have := worstTo_lt f left k e; omega
theorem worstTo_le (f : Int → Int) (left : List Int) (k : Nat) : worstTo f left k ≤ k := by
  rcases Nat.eq_zero_or_pos k with e | e
  · subst e; simp [worstTo]
  · have := worstTo_lt f left k e; omega
def worst (wf : List Int → Int → Int) (left : List Int) : Nat := worstTo (wf left) left left.length
/-- what is left, and the order, after k eliminations -/
def elim (wf : List Int → Int → Int) : Nat → List Int → List Int
  | 0, _ => []
  | k + 1, left => ix left (worst wf left) :: elim wf k (left.eraseIdx (worst wf left))
theorem elim_len (wf : List Int → Int → Int) : ∀ k left, (elim wf k left).length = k
  | 0, _ => rfl
  | k + 1, left => by rw [elim, List.length_cons, elim_len wf k]
def elimP (wf : List Int → Int → Int) (m : Int) : List Int := elim wf m.toNat (upE m.toNat)
def elimR (wf : List Int → Int → Int) (m : Int) (vs : List Vt) : List Int := if profOk m vs then elimP wf m else []
def lenOf : Value → Nat
  | .slice _ n _ => n
  | _ => 0
set_option maxRecDepth 100000 in
set_option maxHeartbeats 1000000 in
theorem implEliminated (g : Nat) (lb : Array Value) (wf : List Int → Int → Int) (m : Int) (A : Option Addr) (n c : Nat) (vs : List Vt) (w : World) (h : VotesAt w A n vs) (hn : n ≤ 1048576) (hx : ∀ v ∈ vs, v.r.length ≤ 1048576)
    (hen : ∀ (args : Array Value) (w : World), (callFunc g args).run Tryz.prog w = .ok (.enter g args) w)
    (hg : profOk m vs = true → ∀ (left : List Int) (a : Int) L lc W, left.length ≤ 5 → (∀ x ∈ left, 0 ≤ x ∧ x < m) → IntsAt W L left.length left → Below w.heap.size w W → Calls Tryz.prog g (#[.slice L left.length lc, .int .i64 a] ++ lb) W fun e W' => e = .returned (.int .i64 (wf left a)) ∧ Below W.heap.size W W') :
    Calls Tryz.prog 107 #[.agg #[.int .i64 m, .slice A n c], .func (.func g) #[] lb] w fun e w' => ∃ A' c', e = .returned (.slice A' (elimR wf m vs).length c') ∧ OwnI w' w.heap.size w'.heap.size (.slice A' (elimR wf m vs).length c') (elimR wf m vs) ∧ Below w.heap.size w w' := by
  obtain rfl := h.len
  have hB := alloc_below w (.cells #[.int .i64 m, .slice A vs.length c] 24)
  obtain ⟨x0, x1⟩ := PBox.new w m A vs.length c 24 rfl
  replace h := h.below hB
  generalize hw0 : w.alloc (.cells #[.int .i64 m, .slice A vs.length c] 24) = w0 at *
  have K := Lib.hid (implProfileOk m A vs.length c vs _ h hn hx)
  unfold elimR
  clear hx
  cases hp : profOk m vs
  · rw [hp] at K
    simp only [Bool.false_eq_true, if_false, List.length_nil]
    clear hg
    go_enter Tryz.func107, Tryz.ntmps107
    go_wp2_with fail
    (with_reducible refine (K.out).mono ?_)
    rintro e w1 ⟨rfl, b1⟩
    replace hB := hB.trans (b1.mono hB.size)
    clear b1
    go_wp2
    go_ret
    exact ⟨_, _, rfl, OwnI.nil _ _ _, hB⟩
  rw [hp] at K
  simp only [if_true]
  have F := pf_of hp
  have HG := Lib.hid (hg hp)
  clear hg hp
  obtain ⟨M, rfl⟩ : ∃ M : Nat, m = (M : Int) := ⟨m.toNat, by have := F.m1; omega⟩
  have M5 : M ≤ 5 := by have := F.m5; omega
  unfold elimP
  rw [Int.toNat_natCast, elim_len]
  obtain ⟨T, hT⟩ : ∃ T, elim wf M (upE M) = T := ⟨_, rfl⟩
  rw [hT]
  have HT := Lib.hid hT
  clear hT
  have M1 : 1 ≤ M := by have := F.m1; omega
  go_enter Tryz.func107, Tryz.ntmps107
  go_wp2_with fail
  (with_reducible refine (K.out).mono ?_)
  rintro e w1 ⟨rfl, b1⟩
  replace x0 := cell_carry b1 x0
  replace x1 := cell_carry b1 x1
  replace hB := hB.trans (b1.mono hB.size)
  clear b1
  clear K hw0
  go_wp2_with fail
  (with_reducible refine (indicesE_any M _ (by omega)).mono ?_)
  rintro e w2 ⟨A2, c2, rfl, o2, b2⟩
  obtain ⟨gl, rfl, gl1, gl2⟩ := o2.head M1
  replace o2 := o2.tight
  have gl3 := o2.num.2.1
  have z1 := hB.size
  have z2 := b2.size
  clear x0 x1
  go_wp2
  go_loopw [5, 6] (fun v5 v6 wr => ∃ (left os : List Int) (A5 : Option Addr) (c5 cl : Nat), left.length + os.length = M ∧ Hid (os ++ elim wf left.length left = T) ∧ (∀ x ∈ left, 0 ≤ x ∧ x < (M : Int)) ∧ v5 = .slice A5 os.length c5 ∧ v6 = .slice (some ⟨gl, 0, none⟩) left.length cl ∧
    OwnI wr w2.heap.size wr.heap.size (.slice A5 os.length c5) os ∧ OwnI wr gl (gl + 1) (.slice (some ⟨gl, 0, none⟩) left.length cl) left ∧ Below w1.heap.size w1 wr ∧ w2.heap.size ≤ wr.heap.size) (fun _ v6 _ => lenOf v6)
  case atStart =>
    refine ⟨upE M, [], none, 0, c2, by simp [upE_len], ?_, fun x hx => ?_, rfl, by rw [upE_len], OwnI.nil _ _ _, by rw [upE_len]; exact o2, b2, Nat.le_refl _⟩
    · show _ = _; rw [upE_len]; simpa using HT.out
    · obtain ⟨j, hj, rfl⟩ := upE_mem hx; omega
  case round =>
    clear o2
    obtain ⟨wo, rfl⟩ : ∃ wo, wo = wr := ⟨_, rfl⟩
    obtain ⟨left, os, A5, c5, cl, hlen, hT, hmem, rfl, rfl, ho, hl, hb, zr⟩ := hrel
    have HM := Lib.hid hmem
    have l5 : left.length ≤ 5 := by omega
    have l6 : os.length ≤ 5 := by omega
    clear hmem
    by_cases hlt : 0 < left.length
    · have hlenI := Lib.hid hlen
      clear hlen
      go_wp2
      go_loopw [7, 8, 9, 21] (fun v7 _ _ i wr => ∃ j : Nat, j ≤ left.length ∧ i = .int .i64 j ∧ v7 = .int .i64 (worstTo (wf left) left j : Nat) ∧ Below wo.heap.size wo wr) (fun _ _ _ i _ => left.length - (intOf i).toNat)
      case atStart => exact ⟨0, Nat.zero_le _, rfl, rfl, Below.refl _ _⟩
      case round =>
        obtain ⟨j, hj, rfl, rfl, hbj⟩ := hrel
        by_cases hlj : j < left.length
        · have hlw := hl.belowW hbj
          have d1 := hlw.cellAt j hlj
          have wl := worstTo_le (wf left) left j
          have hwl : worstTo (wf left) left j < left.length := by omega
          have d2 := hlw.cellAt _ hwl
          have hat := hlw.at_
          have HS : Hid (worstTo (wf left) left (j + 1) = if wf left (ix left j) ≤ wf left (ix left (worstTo (wf left) left j)) then j else worstTo (wf left) left j) := rfl
          have hbw := hB.trans ((hb.trans (hbj.mono hb.size)).mono hB.size)
          have K0 := fun (x : Int) (L : Later wr) => L.call (HG.out left x (some ⟨gl, 0, none⟩) cl L.W l5 HM.out (hat.below L.h) (hbw.trans (L.h.mono hbw.size)))
          generalize worstTo (wf left) left j = at_ at *
          have K1 := Lib.hid (K0 (ix left j))
          have K2 := Lib.hid (K0 (ix left at_))
          have q1 : ∀ L : Later wr, L.W.cell? ⟨gl, at_, none⟩ = some (.int .i64 (ix left at_)) := fun L => L.cell d2
          clear K0 hlw hat hbw d2 wl
          have i1 : (at_ : Int) < (left.length : Int) := by omega
          generalize wf left (ix left j) = f1 at *
          generalize wf left (ix left at_) = f2 at *
          generalize ix left j = x1 at *
          generalize ix left at_ = x2 at *
          by_cases hle : f1 ≤ f2
          · rw [if_pos hle] at HS
            have t0 : decide (f1 ≤ f2) = true := decide_eq_true hle
            clear hle
            go_upto_region 10 with fail
            refine wp_region_later (by kernel_rfl) (by kernel_rfl) ?_
            repeat (go_big_quiet_step (first | (with_reducible exact K1.out _) | (with_reducible exact K2.out _)))
            (refine wpQuiet_nil ?_; rintro wl ⟨L_, hwl_⟩; have hbl := L_.h; rw [← hwl_] at hbl; clear hwl_ L_)
            clear K1 K2 q1 d1
            go_wp2
            go_roundw
            case rel => exact ⟨j + 1, by omega, by go_num, by rw [HS.out], hbj.trans (hbl.mono hbj.size)⟩
            case measure => simp [intOf]; omega
          · rw [if_neg hle] at HS
            have t0 : decide (f1 ≤ f2) = false := decide_eq_false hle
            clear hle
            go_upto_region 10 with fail
            refine wp_region_later (by kernel_rfl) (by kernel_rfl) ?_
            repeat (go_big_quiet_step (first | (with_reducible exact K1.out _) | (with_reducible exact K2.out _)))
            (refine wpQuiet_nil ?_; rintro wl ⟨L_, hwl_⟩; have hbl := L_.h; rw [← hwl_] at hbl; clear hwl_ L_)
            clear K1 K2 q1 d1
            go_wp2
            go_roundw
            case rel => exact ⟨j + 1, by omega, by go_num, by rw [HS.out], hbj.trans (hbl.mono hbj.size)⟩
            case measure => simp [intOf]; omega
        · obtain rfl : j = left.length := by omega
          have z5 := hbj.size
          replace ho := (ho.belowW hbj).mono (Nat.le_refl _) z5
          replace hl := hl.belowW hbj
          replace hb := hb.trans (hbj.mono hb.size)
          have wl := worstTo_lt (wf left) left left.length hlt
          have HW : Hid (worst wf left = worstTo (wf left) left left.length) := rfl
          generalize worstTo (wf left) left left.length = at_ at *
          have d1 := hl.cellAt at_ wl
          have i1 : (at_ : Int) < (left.length : Int) := by omega
          have z6 := hb.size
          clear hbj
          go_wp2_with (at_builtin; refine wpList_append_int _ rfl _ _ rfl (w2.heap.size) _ (os.length) _ _ _ rfl (ho.alloc _) (ix left at_) _ 1 rfl (new_cell _ _ _ rfl) (by omega) (by simp; omega) (by simp; omega) ?_)
          intro A7 c7 w7 o7 on7
          have hl7 := (hl.alloc (.cells #[.int .i64 (ix left at_)] 3)).only on7 (.inl (by omega))
          have hb7 := (hb.alloc z6 (.cells #[.int .i64 (ix left at_)] 3)).trans (on7.toBelow z2 (by simp; omega))
          have z7 : w2.heap.size ≤ w7.heap.size := by have := on7.size; simp at this; omega
          clear d1 on7 hl ho hb
          go_wp2_with fail
          (with_reducible refine (delete5_any gl cl left.length at_ left w7 hl7 l5 wl).mono ?_)
          rintro e w8 ⟨rfl, hl8, on8⟩
          have ho8 := (o7.only on8 (.inr (by omega))).mono (Nat.le_refl _) on8.size
          have hb8 := hb7.trans (on8.toBelow gl1 hb7.size)
          have z8 := on8.size
          have el : (left.eraseIdx at_).length = left.length - 1 := by rw [List.length_eraseIdx, if_pos wl]
          have ol : (os ++ [ix left at_]).length = os.length + 1 := by simp
          have hT8 : Hid ((os ++ [ix left at_]) ++ elim wf (left.eraseIdx at_).length (left.eraseIdx at_) = T) := by
            show _ = _
            have h9 := hT.out
            rw [show left.length = (left.length - 1) + 1 by omega, elim, HW.out] at h9
            rw [List.append_assoc, el]
            exact h9
          have HE := Lib.hid el
          have HO := Lib.hid ol
          clear el ol hl7 o7 on8 hb7
          go_wp2
          go_roundw
          case rel =>
            refine ⟨left.eraseIdx at_, os ++ [ix left at_], A7, c7, cl, ?_, hT8, fun x hx => HM.out x (List.mem_of_mem_eraseIdx hx), by rw [HO.out], by rw [HE.out], by rw [HO.out]; exact ho8, by rw [HE.out]; exact hl8, hb8, by omega⟩
            rw [HE.out, HO.out]; have := hlenI.out; omega
          case measure => simp [lenOf]; omega
    · have l0 : left.length = 0 := by omega
      obtain rfl := List.length_eq_zero_iff.1 l0
      have e2 : os = T := by have := hT.out; simpa [elim] using this
      subst e2
      have ol : os.length = M := by simpa using hlen
      have hB5 := hB.trans (hb.mono hB.size)
      have OL := Lib.hid ol
      clear ol hlen l0
      go_wp2
      go_ret
      rw [← OL.out]
      exact ⟨_, _, rfl, ho.mono (by omega) (Nat.le_refl _), hB5⟩
end Go.Proofs.YtaanppihgldeaaaGreatDoor
namespace Go.Proofs.YtaanppihgldeaaaGreatDoor
set_option linter.unusedSimpArgs false
set_option linter.unusedVariables false
set_option linter.unusedVariables false
open Go.RowKit

def lastI (xs : List Int) : Int := if xs.length = 0 then -1 else ix xs (xs.length - 1)
theorem implLastOf (A : Option Addr) (n c : Nat) (xs : List Int) (w : World) (h : IntsAt w A n xs) (hn : n ≤ 1048576) :
    Calls Tryz.prog 63 #[.slice A n c] w fun e w' => e = .returned (.int .i64 (lastI xs)) ∧ w = w' := by
  obtain rfl := h.len
  unfold lastI
  by_cases h0 : xs.length = 0
  · rw [if_pos h0]
    go_enter Tryz.func63, Tryz.ntmps63
    go_wp2
    go_ret
    exact ⟨rfl, rfl⟩
  · rw [if_neg h0]
    obtain ⟨k, hk⟩ : ∃ k, xs.length = k + 1 := ⟨xs.length - 1, by omega⟩
    obtain ⟨b, o, rfl, _, hc⟩ := h.at_ (show 0 < xs.length by omega)
    have d := hc k (by omega)
    have e1 : xs.length - 1 = k := by omega
    rw [e1]
    have ew : IntKind.i64.wrap ((xs.length : Int) - 1) = (k : Int) := by rw [IntWalk.i64_in _ (by omega)]; omega
    have i1 : (k : Int) < (xs.length : Int) := by omega
    clear hc h
    have H0 : ((xs.length : Int) == 0) = false := by rw [beq_eq_false_iff_ne]; omega
    go_enter Tryz.func63, Tryz.ntmps63
    go_wp2
    go_ret
    exact ⟨rfl, rfl⟩
theorem implInstant (m : Int) (A : Option Addr) (n c : Nat) (vs : List Vt) (w : World) (h : VotesAt w A n vs) (hn : n ≤ 1048576) (hx : ∀ v ∈ vs, v.r.length ≤ 1048576) :
    Calls Tryz.prog 64 #[.agg #[.int .i64 m, .slice A n c]] w fun e w' => ∃ A' c', e = .returned (.slice A' (elimR (instF vs) m vs).length c') ∧ OwnI w' w.heap.size w'.heap.size (.slice A' (elimR (instF vs) m vs).length c') (elimR (instF vs) m vs) ∧ Below w.heap.size w w' := by
  obtain rfl := h.len
  have hB := alloc_below w (.cells #[.int .i64 m, .slice A vs.length c] 24)
  obtain ⟨x0, x1⟩ := PBox.new w m A vs.length c 24 rfl
  replace h := h.below hB
  generalize hw0 : w.alloc (.cells #[.int .i64 m, .slice A vs.length c] 24) = w0 at *
  have K := Lib.hid (implEliminated 108 #[.pointer (some ⟨w.heap.size, 0, none⟩)] (instF vs) m A vs.length c vs _ h hn hx (enters Tryz.func108 (by kernel_rfl) rfl) (fun hp left a L lc W l5 _ hl hb => by
    have F := pf_of hp
    have h' := h.below hb
    have x0' := cell_carry hb x0
    have x1' := cell_carry hb x1
    have hB := Below.refl W.heap.size W
    have K := Lib.hid (implFirstOf m A vs.length c vs L left.length lc left a W h' F hl (by omega))
    unfold instF
    clear x0 x1 h h' hw0
    go_enter Tryz.func108, Tryz.ntmps108
    go_wp2_with fail
    (with_reducible refine (K.out).mono ?_)
    rintro e w1 ⟨rfl, b1⟩
    replace hB := hB.trans (b1.mono hB.size)
    clear b1
    go_wp2
    go_ret
    exact ⟨rfl, hB⟩))
  generalize elimR (instF vs) m vs = T at *
  go_enter Tryz.func64, Tryz.ntmps64
  go_wp2_with fail
  (with_reducible refine K.out.mono ?_)
  rintro e w1 ⟨A1, c1, rfl, o1, b1⟩
  go_wp2
  go_ret
  exact ⟨_, _, rfl, o1.mono hB.size (Nat.le_refl _), hB.trans (b1.mono hB.size)⟩
theorem implCoombs (m : Int) (A : Option Addr) (n c : Nat) (vs : List Vt) (w : World) (h : VotesAt w A n vs) (hn : n ≤ 1048576) (hx : ∀ v ∈ vs, v.r.length ≤ 1048576) :
    Calls Tryz.prog 65 #[.agg #[.int .i64 m, .slice A n c]] w fun e w' => ∃ A' c', e = .returned (.slice A' (elimR (coomF vs) m vs).length c') ∧ OwnI w' w.heap.size w'.heap.size (.slice A' (elimR (coomF vs) m vs).length c') (elimR (coomF vs) m vs) ∧ Below w.heap.size w w' := by
  obtain rfl := h.len
  have hB := alloc_below w (.cells #[.int .i64 m, .slice A vs.length c] 24)
  obtain ⟨x0, x1⟩ := PBox.new w m A vs.length c 24 rfl
  replace h := h.below hB
  generalize hw0 : w.alloc (.cells #[.int .i64 m, .slice A vs.length c] 24) = w0 at *
  have K := Lib.hid (implEliminated 110 #[.pointer (some ⟨w.heap.size, 0, none⟩)] (coomF vs) m A vs.length c vs _ h hn hx (enters Tryz.func110 (by kernel_rfl) rfl) (fun hp left a L lc W l5 _ hl hb => by
    have F := pf_of hp
    have h' := h.below hb
    have x0' := cell_carry hb x0
    have x1' := cell_carry hb x1
    have hB := Below.refl W.heap.size W
    have K := Lib.hid (implLastOfP m A vs.length c vs L left.length lc left a W h' F hl (by omega))
    have bd : 0 ≤ lastN vs left a ∧ lastN vs left a ≤ 24000 := vts_bd F.c F.n
    unfold coomF
    generalize lastN vs left a = y at *
    have ew : IntKind.i64.wrap (-y) = -y := IntWalk.i64_in _ (by omega)
    clear x0 x1 h h' hw0
    go_enter Tryz.func110, Tryz.ntmps110
    go_wp2_with fail
    (with_reducible refine (K.out).mono ?_)
    rintro e w1 ⟨rfl, b1⟩
    replace hB := hB.trans (b1.mono hB.size)
    clear b1
    go_wp2
    go_ret
    exact ⟨rfl, hB⟩))
  generalize elimR (coomF vs) m vs = T at *
  go_enter Tryz.func65, Tryz.ntmps65
  go_wp2_with fail
  (with_reducible refine K.out.mono ?_)
  rintro e w1 ⟨A1, c1, rfl, o1, b1⟩
  go_wp2
  go_ret
  exact ⟨_, _, rfl, o1.mono hB.size (Nat.le_refl _), hB.trans (b1.mono hB.size)⟩
theorem pairN_bd {m : Int} {vs : List Vt} (F : PF m vs) (a : Int) (left : List Int) : ∀ k, 0 ≤ pairN vs a left k ∧ pairN vs a left k ≤ 24000 * k
  | 0 => by simp [pairN]
  | k + 1 => by
    have ih := pairN_bd F a left k
    have := pair_bd F a (ix left k)
    rw [pairN]; omega
set_option maxHeartbeats 400000 in
theorem baldwin1 (m : Int) (A : Option Addr) (c g : Nat) (vs : List Vt) (L : Option Addr) (lc : Nat) (left : List Int) (a : Int) (W : World) (h : VotesAt W A vs.length vs) (F : PF m vs) (x0 : W.cell? ⟨g, 0, none⟩ = some (.int .i64 m)) (x1 : W.cell? ⟨g, 1, none⟩ = some (.slice A vs.length c))
    (hl : IntsAt W L left.length left) (l5 : left.length ≤ 5) :
    Calls Tryz.prog 112 #[.slice L left.length lc, .int .i64 a, .pointer (some ⟨g, 0, none⟩)] W fun e W' => e = .returned (.int .i64 (baldN vs left a)) ∧ Below W.heap.size W W' := by
  unfold baldN
  obtain ⟨T, hT⟩ : ∃ T, pairN vs a left left.length = T := ⟨_, rfl⟩
  rw [hT]
  have HT := Lib.hid hT
  clear hT
  go_enter Tryz.func112, Tryz.ntmps112
  go_wp2
  go_loopw [6, 8, 11] (fun s _ i wr => ∃ k : Nat, k ≤ left.length ∧ i = .int .i64 k ∧ s = .int .i64 (pairN vs a left k) ∧ Below W.heap.size W wr) (fun _ _ i _ => left.length - (intOf i).toNat)
  case atStart => exact ⟨0, Nat.zero_le _, rfl, rfl, Below.refl _ _⟩
  case round =>
    obtain ⟨k, hk, rfl, rfl, hb⟩ := hrel
    by_cases hlt : k < left.length
    · have x0' := cell_carry hb x0
      have x1' := cell_carry hb x1
      obtain ⟨b, o, rfl, _, hc⟩ := (hl.below hb).at_ hlt
      have d := hc k hlt
      have K := Lib.hid (implPair m A vs.length c vs a (ix left k) wr (h.below hb) F)
      have HS : Hid (pairN vs a left (k + 1) = pairN vs a left k + pairP vs a (ix left k)) := rfl
      have b1 := pairN_bd F a left k
      have b2 := pair_bd F a (ix left k)
      generalize pairN vs a left k = s at *
      generalize pairP vs a (ix left k) = y at *
      generalize ix left k = x at *
      clear hc x0 x1 h hl
      have hB := hb
      clear hb
      go_wp2_with fail
      (with_reducible refine (K.out).mono ?_)
      rintro e w1 ⟨rfl, b1⟩
      replace hB := hB.trans (b1.mono hB.size)
      clear b1
      go_wp2
      go_roundw
      case rel => exact ⟨k + 1, by omega, by go_num, by rw [HS.out], hB⟩
      case measure => simp [intOf]; omega
    · obtain rfl : k = left.length := by omega
      rw [HT.out]
      go_wp2
      go_ret
      exact ⟨rfl, hb⟩
theorem implBaldwin (m : Int) (A : Option Addr) (n c : Nat) (vs : List Vt) (w : World) (h : VotesAt w A n vs) (hn : n ≤ 1048576) (hx : ∀ v ∈ vs, v.r.length ≤ 1048576) :
    Calls Tryz.prog 66 #[.agg #[.int .i64 m, .slice A n c]] w fun e w' => ∃ A' c', e = .returned (.slice A' (elimR (baldN vs) m vs).length c') ∧ OwnI w' w.heap.size w'.heap.size (.slice A' (elimR (baldN vs) m vs).length c') (elimR (baldN vs) m vs) ∧ Below w.heap.size w w' := by
  obtain rfl := h.len
  have hB := alloc_below w (.cells #[.int .i64 m, .slice A vs.length c] 24)
  obtain ⟨x0, x1⟩ := PBox.new w m A vs.length c 24 rfl
  replace h := h.below hB
  generalize hw0 : w.alloc (.cells #[.int .i64 m, .slice A vs.length c] 24) = w0 at *
  have K := Lib.hid (implEliminated 112 #[.pointer (some ⟨w.heap.size, 0, none⟩)] (baldN vs) m A vs.length c vs _ h hn hx (enters Tryz.func112 (by kernel_rfl) rfl) (fun hp left a L lc W l5 _ hl hb =>
    baldwin1 m A c w.heap.size vs L lc left a W (h.below hb) (pf_of hp) (cell_carry hb x0) (cell_carry hb x1) hl l5))
  generalize elimR (baldN vs) m vs = T at *
  go_enter Tryz.func66, Tryz.ntmps66
  go_wp2_with fail
  (with_reducible refine K.out.mono ?_)
  rintro e w1 ⟨A1, c1, rfl, o1, b1⟩
  go_wp2
  go_ret
  exact ⟨_, _, rfl, o1.mono hB.size (Nat.le_refl _), hB.trans (b1.mono hB.size)⟩
end Go.Proofs.YtaanppihgldeaaaGreatDoor
