/- The better and the worse of two stable matchings for all men. -/
import Derived.Test.YtbhkpingpipdpaaMBlocks
import Derived.Test.YtbhkpingpipdpaaCopy
import Derived.Test.YtbhkpingpipdpaaPlaces
namespace Go.Proofs.Ytbhkpingpipdpaa
set_option linter.unusedVariables false
open Go.RowKit

theorem ix_set2 {xs : List Int} {j i : Nat} {v : Int} (hj : j < xs.length) : ix (xs.set j v) i = if i = j then v else ix xs i := by
  by_cases hi : i < xs.length
  · rw [ix_lt (by simpa using hi), List.getElem_set, ix_lt hi]
    by_cases e : j = i
    · subst e; simp
    · rw [if_neg e, if_neg (fun h => e h.symm)]
  · rw [ix_ge (by simp; omega), ix_ge (by omega), if_neg (by omega)]
/-- us, but among the first k vs where f holds -/
def outTo (f : Nat → Bool) (us vs : List Int) : Nat → List Int
  | 0 => us
  | k + 1 => if f k then (outTo f us vs k).set k (ix vs k) else outTo f us vs k
theorem outTo_len (f : Nat → Bool) (us vs : List Int) (k : Nat) : (outTo f us vs k).length = us.length := by
  induction k with
  | zero => rfl
  | succ k ih => simp only [outTo]; split <;> simp [ih]
theorem outTo_ix {f : Nat → Bool} {us vs : List Int} {k j : Nat} (hk : k ≤ us.length) : ix (outTo f us vs k) j = if j < k ∧ f j = true then ix vs j else ix us j := by
  induction k with
  | zero => simp [outTo]
  | succ k ih =>
    have h := ih (by omega)
    simp only [outTo]
    by_cases hf : f k = true
    · rw [if_pos hf, ix_set2 (by rw [outTo_len]; omega), h]
      by_cases e : j = k
      · subst e; rw [if_pos rfl, if_pos ⟨by omega, hf⟩]
      · rw [if_neg e]
        by_cases hj : j < k ∧ f j = true
        · rw [if_pos hj, if_pos ⟨by omega, hj.2⟩]
        · rw [if_neg hj, if_neg (fun h => hj ⟨by omega, h.2⟩)]
    · rw [if_neg hf, h]
      by_cases hj : j < k ∧ f j = true
      · rw [if_pos hj, if_pos ⟨by omega, hj.2⟩]
      · rw [if_neg hj, if_neg]
        rintro ⟨h1, h2⟩
        by_cases e : j = k
        · subst e; exact hf h2
        · exact hj ⟨by omega, h2⟩
theorem outTo_list {f : Nat → Bool} {us vs : List Int} {g : Nat → Int} (h : ∀ i, i < us.length → g i = if f i then ix vs i else ix us i) : outTo f us vs us.length = listF g us.length := by
  apply List.ext_getElem
  · rw [outTo_len, listF_len]
  · intro i h1 h2
    rw [outTo_len] at h1
    rw [← ix_lt, ← ix_lt, outTo_ix (Nat.le_refl _), ix_listF h1, h i h1]
    by_cases hf : f i = true
    · rw [if_pos ⟨h1, hf⟩, if_pos hf]
    · rw [if_neg (fun h => hf h.2), if_neg hf]
def joinOn (xss yss : List (List Int)) (us vs : List Int) : Bool := stableM xss yss us && stableM xss yss vs
def joinOf (f : Nat → Bool) (xss yss : List (List Int)) (us vs : List Int) : List Int := if joinOn xss yss us vs then outTo f us vs us.length else []
def betterB (xss : List (List Int)) (us vs : List Int) (i : Nat) : Bool := pref (rx xss i) (ix vs i) (ix us i)
def worseB (xss : List (List Int)) (us vs : List Int) (i : Nat) : Bool := pref (rx xss i) (ix us i) (ix vs i)
theorem joinOf_len {f : Nat → Bool} {xss yss : List (List Int)} {us vs : List Int} (h : joinOn xss yss us vs = true) : joinOf f xss yss us vs = outTo f us vs us.length := by unfold joinOf; rw [if_pos h]
theorem joinOf_no {f : Nat → Bool} {xss yss : List (List Int)} {us vs : List Int} (h : joinOn xss yss us vs = false) : joinOf f xss yss us vs = [] := by unfold joinOf; rw [h]; rfl
theorem stableM_match' {xss yss : List (List Int)} {zs : List Int} (h : stableM xss yss zs = true) : matchOk xss yss zs = true := by
  unfold stableM at h
  rw [Bool.and_eq_true] at h
  exact h.1
set_option maxHeartbeats 1000000 in
theorem chosen_any (A : Option Addr) (n c : Nat) (xss : List (List Int)) (B : Option Addr) (m d : Nat) (yss : List (List Int)) (C : Option Addr) (l e : Nat) (us : List Int) (D : Option Addr) (l' e' : Nat) (vs : List Int) (gf : Nat) (lb : Array Value) (f : Nat → Bool) (w : World) (h : RowsAt w A n xss) (hn : n ≤ 1048576) (hx : ∀ xs ∈ xss, xs.length ≤ 1048576)
    (g : RowsAt w B m yss) (hm : m ≤ 1048576) (hy : ∀ xs ∈ yss, xs.length ≤ 1048576) (q : IntsAt w C l us) (hl : l ≤ 1048576) (hc : l ≤ e) (p : IntsAt w D l' vs) (hl' : l' ≤ 1048576) (hc' : l' ≤ e')
    (hen : ∀ (args : Array Value) (w : World), (callFunc gf args).run Try.prog w = .ok (.enter gf args) w)
    (hg : joinOn xss yss us vs = true → ∀ (i : Nat) W, i < us.length → Below w.heap.size w W → Calls Try.prog gf (#[.int .i64 (i : Int)] ++ lb) W fun e W' => e = .returned (.bool (f i)) ∧ Below W.heap.size W W') :
    Calls Try.prog 37 #[.agg #[.slice A n c, .slice B m d], .slice C l e, .slice D l' e', .func (.func gf) #[] lb] w fun r w' => ∃ A' c', r = .returned (.tuple #[.slice A' (joinOf (f) xss yss us vs).length c', .bool (joinOn xss yss us vs)]) ∧ OwnI w' w.heap.size w'.heap.size (.slice A' (joinOf (f) xss yss us vs).length c') (joinOf (f) xss yss us vs) ∧ (joinOf (f) xss yss us vs).length ≤ 1048576 ∧ Below w.heap.size w w' := by
  obtain rfl := h.len
  obtain rfl := g.len
  obtain rfl := q.len
  obtain rfl := p.len
  have HX := Lib.hid hx
  have HY := Lib.hid hy
  clear hx hy
  have hall := pair_below w (.slice A xss.length c) (.slice B yss.length d) 26
  have hz0 := hall.size
  have h0 := h.below hall
  have g0 := g.below hall
  have q0 := q.below hall
  have p0 := p.below hall
  have M0 := MktAt.new h g (c := c) (d := d) 26
  have HG := Lib.hid hg
  clear hg
  cases m1 : stableM xss yss us
  · have HJ : joinOn xss yss us vs = false := by unfold joinOn; rw [m1]; rfl
    rw [joinOf_no HJ, HJ]
    clear HJ
    go_enter Try.func37, Try.ntmps37
    go_wp2_with fail
    (with_reducible refine (implIsStable _ _ _ _ _ _ _ _ _ _ _ _ _ h0 hn HX.out g0 hm HY.out q0 hl hc).mono ?_)
    rintro er w1 ⟨rfl, hb⟩
    rw [m1]
    have M1 := M0.below hb
    have p1 := p0.below hb
    have q1 := q0.below hb
    have b1 := hall.trans (hb.mono hz0)
    have s1 := b1.size
    clear hb M0 hall hz0 h0 g0 q0 p0
    obtain ⟨c0, c1, h1, g1⟩ := M1
    go_wp2
    go_ret2
    exact ⟨none, 0, rfl, OwnI.nil _ _ _, by simp, b1⟩
  cases m2 : stableM xss yss vs
  · have HJ : joinOn xss yss us vs = false := by unfold joinOn; rw [m2]; simp
    rw [joinOf_no HJ, HJ]
    clear HJ
    go_enter Try.func37, Try.ntmps37
    go_wp2_with fail
    (with_reducible refine (implIsStable _ _ _ _ _ _ _ _ _ _ _ _ _ h0 hn HX.out g0 hm HY.out q0 hl hc).mono ?_)
    rintro er w1 ⟨rfl, hb⟩
    rw [m1]
    have M1 := M0.below hb
    have p1 := p0.below hb
    have q1 := q0.below hb
    have b1 := hall.trans (hb.mono hz0)
    have s1 := b1.size
    clear hb M0 hall hz0 h0 g0 q0 p0
    obtain ⟨c0, c1, h1, g1⟩ := M1
    have M1 : MktAt w1 _ _ _ _ _ _ _ _ _ := ⟨c0, c1, h1, g1⟩
    go_wp2_with fail
    (with_reducible refine (implIsStable _ _ _ _ _ _ _ _ _ _ _ _ _ h1 hn HX.out g1 hm HY.out p1 hl' hc').mono ?_)
    rintro er w2 ⟨rfl, hb⟩
    rw [m2]
    have M2 := M1.below hb
    have p2 := p1.below hb
    have q2 := q1.below hb
    have b2 := b1.trans (hb.mono s1)
    have s2 := b2.size
    clear hb M1 b1 s1 c0 c1 h1 g1 p1 q1
    obtain ⟨c0, c1, h2, g2⟩ := M2
    go_wp2
    go_ret2
    exact ⟨none, 0, rfl, OwnI.nil _ _ _, by simp, b2⟩
  have HJ : joinOn xss yss us vs = true := by unfold joinOn; rw [m1, m2]; rfl
  have G := Lib.hid (HG.out HJ)
  rw [joinOf_len HJ, outTo_len, HJ]
  clear HJ HG
  have FU := Lib.hid (match_facts (stableM_match' m1))
  have FV := Lib.hid (match_facts (stableM_match' m2))
  have u1 : us.length ≤ vs.length := by have := FU.out.zl; have := FV.out.zl; omega
  have u2 : us.length ≤ 5 := by have := FU.out.zl; have := FU.out.hi; omega
  go_enter Try.func37, Try.ntmps37
  go_wp2_with fail
  (with_reducible refine (implIsStable _ _ _ _ _ _ _ _ _ _ _ _ _ h0 hn HX.out g0 hm HY.out q0 hl hc).mono ?_)
  rintro er w1 ⟨rfl, hb⟩
  rw [m1]
  have M1 := M0.below hb
  have p1 := p0.below hb
  have q1 := q0.below hb
  have b1 := hall.trans (hb.mono hz0)
  have s1 := b1.size
  clear hb M0 hall hz0 h0 g0 q0 p0
  obtain ⟨c0, c1, h1, g1⟩ := M1
  have M1 : MktAt w1 _ _ _ _ _ _ _ _ _ := ⟨c0, c1, h1, g1⟩
  go_wp2_with fail
  (with_reducible refine (implIsStable _ _ _ _ _ _ _ _ _ _ _ _ _ h1 hn HX.out g1 hm HY.out p1 hl' hc').mono ?_)
  rintro er w2 ⟨rfl, hb⟩
  rw [m2]
  have M2 := M1.below hb
  have p2 := p1.below hb
  have q2 := q1.below hb
  have b2 := b1.trans (hb.mono s1)
  have s2 := b2.size
  clear hb M1 b1 s1 c0 c1 h1 g1 p1 q1
  obtain ⟨c0, c1, h2, g2⟩ := M2
  clear c0 c1 m1 m2
  go_wp2_with fail
  (with_reducible refine (clone_any _ _ _ _ _ q2 hl).mono ?_)
  rintro er w3 ⟨A3, c3, rfl, o3, hb⟩
  have b3 := b2.trans (hb.mono s2)
  have s3 := b3.size
  have p3 := p2.below hb
  have l3 := hb.size
  clear hb b2 p2 q2 h2 g2
  obtain ⟨gg, rfl, k1, k2⟩ := o3.head (show 0 < us.length by have := FU.out.zl; have := FU.out.lo; omega)
  go_wp2
  go_loopw [11, 26] (fun _ i wr => ∃ k : Nat, k ≤ us.length ∧ i = .int .i64 k ∧ OwnI wr w2.heap.size w3.heap.size (.slice (some ⟨gg, 0, none⟩) us.length c3) (outTo f us vs k) ∧ w3.heap.size ≤ wr.heap.size ∧ Below w.heap.size w wr) (fun _ i _ => us.length - (intOf i).toNat)
  case atStart => exact ⟨0, Nat.zero_le _, rfl, o3, Nat.le_refl _, b3⟩
  case round =>
    obtain ⟨k, hk, rfl, hown, hz, hb⟩ := hrel
    have zr := hb.size
    by_cases hlt : k < us.length
    · have hgk := G.out k wr hlt hb
      have HGK := Lib.hid hgk
      clear hgk
      go_wp2_with fail
      refine HGK.out.mono ?_
      rintro er w4 ⟨rfl, hb'⟩
      have hown2 := hown.belowW hb'
      have b4 := hb.trans (hb'.mono zr)
      have z4 := b4.size
      have hz4 := Nat.le_trans hz hb'.size
      clear hb hb' hown
      cases hf : f k
      · have HO : Hid (outTo f us vs (k + 1) = outTo f us vs k) := by show _ = _; rw [outTo, hf]; rfl
        go_wp2
        go_roundw
        case rel => exact ⟨k + 1, by omega, by go_num, by rw [HO.out]; exact hown2, hz4, b4⟩
        case measure => simp [intOf]; omega
      · have HO : Hid (outTo f us vs (k + 1) = (outTo f us vs k).set k (ix vs k)) := by show _ = _; rw [outTo, hf]; rfl
        obtain ⟨bv, ov, ev, _, hcv⟩ := (p.below b4).at_ (show k < vs.length by omega)
        cases ev
        have kv := hcv k (by omega)
        have i3 : k < vs.length := by omega
        have ck := hown2.cellAt k hlt
        have fk := hown2.frozenAt k
        clear hcv
        obtain ⟨o5, n5⟩ := hown2.stored k (ix vs k)
        have o5 : OwnI _ _ _ _ _ := o5
        rw [← HO.out] at o5
        have O5 := Lib.hid o5
        have B5 := Lib.hid (b4.trans (n5.toBelow (B := w.heap.size) (by omega) z4))
        have hz5 := Nat.le_trans hz4 n5.size
        clear o5 n5 hown2 hf
        go_wp2
        go_roundw
        case rel => exact ⟨k + 1, by omega, by go_num, O5.out, hz5, B5.out⟩
        case measure => simp [intOf]; omega
    · obtain rfl : k = us.length := by omega
      go_wp2
      go_ret2
      exact ⟨_, _, rfl, hown.mono s2 hz, hl, hb⟩
set_option maxHeartbeats 1000000 in
theorem betterB_cl (A : Option Addr) (n c : Nat) (xss : List (List Int)) (B : Option Addr) (m d : Nat) (yss : List (List Int)) (C : Option Addr) (l e : Nat) (us : List Int) (D : Option Addr) (l' e' : Nat) (vs : List Int) (i MB UB VB : Nat) (W : World)
    (M : MktAt W MB A n c xss B m d yss) (q : IntsAt W C l us) (p : IntsAt W D l' vs) (cu : W.cell? ⟨UB, 0, none⟩ = some (.slice C l e)) (cv : W.cell? ⟨VB, 0, none⟩ = some (.slice D l' e')) (FU : MatchF xss yss us) (FV : MatchF xss yss vs) (hi : i < us.length) :
    Calls Try.prog 38 #[.int .i64 (i : Int), .pointer (some ⟨MB, 0, none⟩), .pointer (some ⟨VB, 0, none⟩), .pointer (some ⟨UB, 0, none⟩)] W fun r w' => r = .returned (.bool (betterB xss us vs i)) ∧ Below W.heap.size W w' := by
  obtain rfl := M.men.len
  obtain rfl := q.len
  obtain rfl := p.len
  obtain ⟨d0, _, mm, _⟩ := M
  have i0 : i < xss.length := by have := FU.zl; omega
  obtain ⟨b, o, A', c', eb, _, hck, hcc, hin⟩ := mm.at_ i0
  cases eb
  obtain ⟨b1, o1, e1, _, hc1⟩ := q.at_ hi
  cases e1
  obtain ⟨b2, o2, e2, _, hc2⟩ := p.at_ (show i < vs.length by have := FU.zl; have := FV.zl; omega)
  cases e2
  have ku := hc1 i hi
  have kv := hc2 i (by have := FU.zl; have := FV.zl; omega)
  have rl : (rx xss i).length ≤ 1099511627776 := by have := rank_len (FU.mr i i0); have := FU.hi; omega
  have i1 : (0 : Int) ≤ (i : Int) := by omega
  have i2 : (i : Int) < (xss.length : Int) := by omega
  have i3 : (i : Int) < (us.length : Int) := by omega
  have i4 : (i : Int) < (vs.length : Int) := by have := FU.zl; have := FV.zl; omega
  have K1 := Lib.hid (fun n => Calls.quiet_of_same (n := n) ((implPrefers _ _ c' _ (ix vs i) (ix us i) _ (hin.drewN n) rl).mono fun _ _ ⟨he, hw⟩ => ⟨he, hw.symm⟩))
  clear hc1 hc2 mm FU FV
  unfold betterB
  go_enter Try.func38, Try.ntmps38
  go_wp2
  go_quiet ((with_reducible exact K1.out _))
  go_wp2
  go_ret
  exact ⟨rfl, below_of_drewN rfl⟩
set_option maxHeartbeats 1000000 in
theorem worseB_cl (A : Option Addr) (n c : Nat) (xss : List (List Int)) (B : Option Addr) (m d : Nat) (yss : List (List Int)) (C : Option Addr) (l e : Nat) (us : List Int) (D : Option Addr) (l' e' : Nat) (vs : List Int) (i MB UB VB : Nat) (W : World)
    (M : MktAt W MB A n c xss B m d yss) (q : IntsAt W C l us) (p : IntsAt W D l' vs) (cu : W.cell? ⟨UB, 0, none⟩ = some (.slice C l e)) (cv : W.cell? ⟨VB, 0, none⟩ = some (.slice D l' e')) (FU : MatchF xss yss us) (FV : MatchF xss yss vs) (hi : i < us.length) :
    Calls Try.prog 40 #[.int .i64 (i : Int), .pointer (some ⟨MB, 0, none⟩), .pointer (some ⟨UB, 0, none⟩), .pointer (some ⟨VB, 0, none⟩)] W fun r w' => r = .returned (.bool (worseB xss us vs i)) ∧ Below W.heap.size W w' := by
  obtain rfl := M.men.len
  obtain rfl := q.len
  obtain rfl := p.len
  obtain ⟨d0, _, mm, _⟩ := M
  have i0 : i < xss.length := by have := FU.zl; omega
  obtain ⟨b, o, A', c', eb, _, hck, hcc, hin⟩ := mm.at_ i0
  cases eb
  obtain ⟨b1, o1, e1, _, hc1⟩ := q.at_ hi
  cases e1
  obtain ⟨b2, o2, e2, _, hc2⟩ := p.at_ (show i < vs.length by have := FU.zl; have := FV.zl; omega)
  cases e2
  have ku := hc1 i hi
  have kv := hc2 i (by have := FU.zl; have := FV.zl; omega)
  have rl : (rx xss i).length ≤ 1099511627776 := by have := rank_len (FU.mr i i0); have := FU.hi; omega
  have i1 : (0 : Int) ≤ (i : Int) := by omega
  have i2 : (i : Int) < (xss.length : Int) := by omega
  have i3 : (i : Int) < (us.length : Int) := by omega
  have i4 : (i : Int) < (vs.length : Int) := by have := FU.zl; have := FV.zl; omega
  have K1 := Lib.hid (fun n => Calls.quiet_of_same (n := n) ((implPrefers _ _ c' _ (ix us i) (ix vs i) _ (hin.drewN n) rl).mono fun _ _ ⟨he, hw⟩ => ⟨he, hw.symm⟩))
  clear hc1 hc2 mm FU FV
  unfold worseB
  go_enter Try.func40, Try.ntmps40
  go_wp2
  go_quiet ((with_reducible exact K1.out _))
  go_wp2
  go_ret
  exact ⟨rfl, below_of_drewN rfl⟩
set_option maxHeartbeats 1000000 in
theorem implBetterOf (A : Option Addr) (n c : Nat) (xss : List (List Int)) (B : Option Addr) (m d : Nat) (yss : List (List Int)) (C : Option Addr) (l e : Nat) (us : List Int) (D : Option Addr) (l' e' : Nat) (vs : List Int) (w : World) (h : RowsAt w A n xss) (hn : n ≤ 1048576) (hx : ∀ xs ∈ xss, xs.length ≤ 1048576)
    (g : RowsAt w B m yss) (hm : m ≤ 1048576) (hy : ∀ xs ∈ yss, xs.length ≤ 1048576) (q : IntsAt w C l us) (hl : l ≤ 1048576) (hc : l ≤ e) (p : IntsAt w D l' vs) (hl' : l' ≤ 1048576) (hc' : l' ≤ e') :
    Calls Try.prog 17 #[.agg #[.slice A n c, .slice B m d], .slice C l e, .slice D l' e'] w fun r w' => ∃ A' c', r = .returned (.tuple #[.slice A' (joinOf (betterB xss us vs) xss yss us vs).length c', .bool (joinOn xss yss us vs)]) ∧ OwnI w' w.heap.size w'.heap.size (.slice A' (joinOf (betterB xss us vs) xss yss us vs).length c') (joinOf (betterB xss us vs) xss yss us vs) ∧ (joinOf (betterB xss us vs) xss yss us vs).length ≤ 1048576 ∧ Below w.heap.size w w' := by
  obtain rfl := h.len
  obtain rfl := g.len
  obtain rfl := q.len
  obtain rfl := p.len
  have a1 := pair_below w (.slice A xss.length c) (.slice B yss.length d) 26
  have a2 := a1.alloc (by simp) (.cells #[.slice C us.length e] 33)
  have a3 := a2.alloc (by simp; omega) (.cells #[.slice D vs.length e'] 33)
  have M1 := MktAt.new h g (c := c) (d := d) 26
  have M3 := (M1.below ((Below.refl _ _).alloc (Nat.le_refl _) (.cells #[.slice C us.length e] 33))).below ((Below.refl _ _).alloc (Nat.le_refl _) (.cells #[.slice D vs.length e'] 33))
  have cu := old_cell (new_cell (w.alloc (.cells #[.slice A xss.length c, .slice B yss.length d] 26)) (.slice C us.length e) 33 (g := w.heap.size + 1) (by simp)) (.cells #[.slice D vs.length e'] 33)
  have cv := new_cell ((w.alloc (.cells #[.slice A xss.length c, .slice B yss.length d] 26)).alloc (.cells #[.slice C us.length e] 33)) (.slice D vs.length e') 33 (g := w.heap.size + 1 + 1) (by simp)
  have q3 := q.below a3
  have p3 := p.below a3
  have h3 := h.below a3
  have g3 := g.below a3
  have hz : w.heap.size ≤ (((w.alloc (.cells #[.slice A xss.length c, .slice B yss.length d] 26)).alloc (.cells #[.slice C us.length e] 33)).alloc (.cells #[.slice D vs.length e'] 33)).heap.size := a3.size
  have HC := Lib.hid (chosen_any A xss.length c xss B yss.length d yss C us.length e us D vs.length e' vs 38 #[.pointer (some ⟨w.heap.size, 0, none⟩), .pointer (some ⟨w.heap.size + 1 + 1, 0, none⟩), .pointer (some ⟨w.heap.size + 1, 0, none⟩)] (betterB xss us vs) (((w.alloc (.cells #[.slice A xss.length c, .slice B yss.length d] 26)).alloc (.cells #[.slice C us.length e] 33)).alloc (.cells #[.slice D vs.length e'] 33)) h3 hn hx g3 hm hy q3 hl hc p3 hl' hc'
    (enters Try.func38 (by kernel_rfl) rfl)
    (fun hj i W hi hb => by
      unfold joinOn at hj
      rw [Bool.and_eq_true] at hj
      exact betterB_cl A xss.length c xss B yss.length d yss C us.length e us D vs.length e' vs i _ _ _ W (M3.below hb) (q3.below hb) (p3.below hb) (cell_carry hb cu) (cell_carry hb cv) (match_facts (stableM_match' hj.1)) (match_facts (stableM_match' hj.2)) hi))
  clear a1 a2 M1 M3 cu cv q3 p3 h3 g3 hx hy
  go_enter Try.func17, Try.ntmps17
  go_wp2_with fail
  generalize (((w.alloc (.cells #[.slice A xss.length c, .slice B yss.length d] 26)).alloc (.cells #[.slice C us.length e] 33)).alloc (.cells #[.slice D vs.length e'] 33)) = V at *
  (with_reducible refine HC.out.mono ?_)
  rintro er w1 ⟨A1, c1, rfl, o1, hl1, hb⟩
  have hb2 := a3.trans (hb.mono hz)
  clear hb a3
  go_wp2
  go_ret2
  exact ⟨_, _, rfl, o1.mono hz (Nat.le_refl _), hl1, hb2⟩
set_option maxHeartbeats 1000000 in
theorem implWorseOf (A : Option Addr) (n c : Nat) (xss : List (List Int)) (B : Option Addr) (m d : Nat) (yss : List (List Int)) (C : Option Addr) (l e : Nat) (us : List Int) (D : Option Addr) (l' e' : Nat) (vs : List Int) (w : World) (h : RowsAt w A n xss) (hn : n ≤ 1048576) (hx : ∀ xs ∈ xss, xs.length ≤ 1048576)
    (g : RowsAt w B m yss) (hm : m ≤ 1048576) (hy : ∀ xs ∈ yss, xs.length ≤ 1048576) (q : IntsAt w C l us) (hl : l ≤ 1048576) (hc : l ≤ e) (p : IntsAt w D l' vs) (hl' : l' ≤ 1048576) (hc' : l' ≤ e') :
    Calls Try.prog 22 #[.agg #[.slice A n c, .slice B m d], .slice C l e, .slice D l' e'] w fun r w' => ∃ A' c', r = .returned (.tuple #[.slice A' (joinOf (worseB xss us vs) xss yss us vs).length c', .bool (joinOn xss yss us vs)]) ∧ OwnI w' w.heap.size w'.heap.size (.slice A' (joinOf (worseB xss us vs) xss yss us vs).length c') (joinOf (worseB xss us vs) xss yss us vs) ∧ (joinOf (worseB xss us vs) xss yss us vs).length ≤ 1048576 ∧ Below w.heap.size w w' := by
  obtain rfl := h.len
  obtain rfl := g.len
  obtain rfl := q.len
  obtain rfl := p.len
  have a1 := pair_below w (.slice A xss.length c) (.slice B yss.length d) 26
  have a2 := a1.alloc (by simp) (.cells #[.slice C us.length e] 33)
  have a3 := a2.alloc (by simp; omega) (.cells #[.slice D vs.length e'] 33)
  have M1 := MktAt.new h g (c := c) (d := d) 26
  have M3 := (M1.below ((Below.refl _ _).alloc (Nat.le_refl _) (.cells #[.slice C us.length e] 33))).below ((Below.refl _ _).alloc (Nat.le_refl _) (.cells #[.slice D vs.length e'] 33))
  have cu := old_cell (new_cell (w.alloc (.cells #[.slice A xss.length c, .slice B yss.length d] 26)) (.slice C us.length e) 33 (g := w.heap.size + 1) (by simp)) (.cells #[.slice D vs.length e'] 33)
  have cv := new_cell ((w.alloc (.cells #[.slice A xss.length c, .slice B yss.length d] 26)).alloc (.cells #[.slice C us.length e] 33)) (.slice D vs.length e') 33 (g := w.heap.size + 1 + 1) (by simp)
  have q3 := q.below a3
  have p3 := p.below a3
  have h3 := h.below a3
  have g3 := g.below a3
  have hz : w.heap.size ≤ (((w.alloc (.cells #[.slice A xss.length c, .slice B yss.length d] 26)).alloc (.cells #[.slice C us.length e] 33)).alloc (.cells #[.slice D vs.length e'] 33)).heap.size := a3.size
  have HC := Lib.hid (chosen_any A xss.length c xss B yss.length d yss C us.length e us D vs.length e' vs 40 #[.pointer (some ⟨w.heap.size, 0, none⟩), .pointer (some ⟨w.heap.size + 1, 0, none⟩), .pointer (some ⟨w.heap.size + 1 + 1, 0, none⟩)] (worseB xss us vs) (((w.alloc (.cells #[.slice A xss.length c, .slice B yss.length d] 26)).alloc (.cells #[.slice C us.length e] 33)).alloc (.cells #[.slice D vs.length e'] 33)) h3 hn hx g3 hm hy q3 hl hc p3 hl' hc'
    (enters Try.func40 (by kernel_rfl) rfl)
    (fun hj i W hi hb => by
      unfold joinOn at hj
      rw [Bool.and_eq_true] at hj
      exact worseB_cl A xss.length c xss B yss.length d yss C us.length e us D vs.length e' vs i _ _ _ W (M3.below hb) (q3.below hb) (p3.below hb) (cell_carry hb cu) (cell_carry hb cv) (match_facts (stableM_match' hj.1)) (match_facts (stableM_match' hj.2)) hi))
  clear a1 a2 M1 M3 cu cv q3 p3 h3 g3 hx hy
  go_enter Try.func22, Try.ntmps22
  go_wp2_with fail
  generalize (((w.alloc (.cells #[.slice A xss.length c, .slice B yss.length d] 26)).alloc (.cells #[.slice C us.length e] 33)).alloc (.cells #[.slice D vs.length e'] 33)) = V at *
  (with_reducible refine HC.out.mono ?_)
  rintro er w1 ⟨A1, c1, rfl, o1, hl1, hb⟩
  have hb2 := a3.trans (hb.mono hz)
  clear hb a3
  go_wp2
  go_ret2
  exact ⟨_, _, rfl, o1.mono hz (Nat.le_refl _), hl1, hb2⟩
theorem pref_flip {n : Nat} {xs : List Int} (h : rankOk n xs = true) {a b : Int} (a0 : 0 ≤ a) (a1 : a < n) (b0 : 0 ≤ b) (b1 : b < n) (hne : a ≠ b) : pref xs a b = !pref xs b a := by
  have pa := rank_place h a0 a1
  have pb := rank_place h b0 b1
  have ne : place xs a ≠ place xs b := fun e => by
    have h1 := place_at (xs := xs) (a := a) pa.1
    have h2 := place_at (xs := xs) (a := b) pb.1
    rw [e, h2] at h1
    exact hne h1.symm
  unfold pref
  have e1 : decide (0 ≤ place xs a) = true := decide_eq_true pa.1
  have e2 : decide (0 ≤ place xs b) = true := decide_eq_true pb.1
  rw [e1, e2, Bool.eq_iff_iff]
  simp
  omega
def gS (bt : Bool) (xss : List (List Int)) (us vs : List Int) (i : Nat) : Int := if (pref (rx xss i) (ix us i) (ix vs i) == bt) = true then ix us i else ix vs i
theorem gS_worse (xss : List (List Int)) (us vs : List Int) (i : Nat) : gS false xss us vs i = if worseB xss us vs i then ix vs i else ix us i := by
  unfold gS worseB
  cases pref (rx xss i) (ix us i) (ix vs i) <;> simp
theorem gS_better {xss yss : List (List Int)} {us vs : List Int} (FU : MatchF xss yss us) (FV : MatchF xss yss vs) {i : Nat} (hi : i < us.length) : gS true xss us vs i = if betterB xss us vs i then ix vs i else ix us i := by
  have h := FU.zl
  have u := FU.z i (by omega)
  have v := FV.z i (by omega)
  unfold gS betterB
  by_cases e : ix us i = ix vs i
  · rw [e]; simp
  · rw [pref_flip (FU.mr i (by omega)) u.1 u.2 v.1 v.2 e]
    cases pref (rx xss i) (ix vs i) (ix us i) <;> simp
set_option maxHeartbeats 1000000 in
theorem l18Join_any (A : Option Addr) (n c : Nat) (xss : List (List Int)) (B : Option Addr) (m d : Nat) (yss : List (List Int)) (C : Option Addr) (l e : Nat) (us : List Int) (D : Option Addr) (l' e' : Nat) (vs : List Int) (bt : Bool) (f : Nat → Bool) (w : World) (h : RowsAt w A n xss) (hn : n ≤ 1048576) (hx : ∀ xs ∈ xss, xs.length ≤ 1048576)
    (g : RowsAt w B m yss) (hm : m ≤ 1048576) (hy : ∀ xs ∈ yss, xs.length ≤ 1048576) (q : IntsAt w C l us) (hl : l ≤ 1048576) (hc : l ≤ e) (p : IntsAt w D l' vs) (hl' : l' ≤ 1048576) (hc' : l' ≤ e')
    (hf : joinOn xss yss us vs = true → ∀ i, i < us.length → gS bt xss us vs i = if f i then ix vs i else ix us i) :
    Calls Try.prog 36 #[.agg #[.slice A n c, .slice B m d], .slice C l e, .slice D l' e', .bool bt] w fun r w' => ∃ A' c', r = .returned (.tuple #[.slice A' (joinOf (f) xss yss us vs).length c', .bool (joinOn xss yss us vs)]) ∧ OwnI w' w.heap.size w'.heap.size (.slice A' (joinOf (f) xss yss us vs).length c') (joinOf (f) xss yss us vs) ∧ (joinOf (f) xss yss us vs).length ≤ 1048576 ∧ Below w.heap.size w w' := by
  obtain rfl := h.len
  obtain rfl := g.len
  obtain rfl := q.len
  obtain rfl := p.len
  have HX := Lib.hid hx
  have HY := Lib.hid hy
  clear hx hy
  have hall := pair_below w (.slice A xss.length c) (.slice B yss.length d) 26
  have hz0 := hall.size
  have h0 := h.below hall
  have g0 := g.below hall
  have q0 := q.below hall
  have p0 := p.below hall
  have M0 := MktAt.new h g (c := c) (d := d) 26
  cases m1 : stableM xss yss us
  · have HJ : joinOn xss yss us vs = false := by unfold joinOn; rw [m1]; rfl
    rw [joinOf_no HJ, HJ]
    clear HJ hf
    go_enter Try.func36, Try.ntmps36
    go_wp2_with fail
    (with_reducible refine (specIsStable _ _ _ _ _ _ _ _ _ _ _ _ _ h0 hn HX.out g0 hm HY.out q0 hl hc).mono ?_)
    rintro er w1 ⟨rfl, hb⟩
    rw [m1]
    have M1 := M0.below hb
    have p1 := p0.below hb
    have q1 := q0.below hb
    have b1 := hall.trans (hb.mono hz0)
    have s1 := b1.size
    clear hb M0 hall hz0 h0 g0 q0 p0
    obtain ⟨c0, c1, h1, g1⟩ := M1
    go_wp2
    go_ret2
    exact ⟨none, 0, rfl, OwnI.nil _ _ _, by simp, b1⟩
  cases m2 : stableM xss yss vs
  · have HJ : joinOn xss yss us vs = false := by unfold joinOn; rw [m2]; simp
    rw [joinOf_no HJ, HJ]
    clear HJ hf
    go_enter Try.func36, Try.ntmps36
    go_wp2_with fail
    (with_reducible refine (specIsStable _ _ _ _ _ _ _ _ _ _ _ _ _ h0 hn HX.out g0 hm HY.out q0 hl hc).mono ?_)
    rintro er w1 ⟨rfl, hb⟩
    rw [m1]
    have M1 := M0.below hb
    have p1 := p0.below hb
    have q1 := q0.below hb
    have b1 := hall.trans (hb.mono hz0)
    have s1 := b1.size
    clear hb M0 hall hz0 h0 g0 q0 p0
    obtain ⟨c0, c1, h1, g1⟩ := M1
    have M1 : MktAt w1 _ _ _ _ _ _ _ _ _ := ⟨c0, c1, h1, g1⟩
    go_wp2_with fail
    (with_reducible refine (specIsStable _ _ _ _ _ _ _ _ _ _ _ _ _ h1 hn HX.out g1 hm HY.out p1 hl' hc').mono ?_)
    rintro er w2 ⟨rfl, hb⟩
    rw [m2]
    have M2 := M1.below hb
    have p2 := p1.below hb
    have q2 := q1.below hb
    have b2 := b1.trans (hb.mono s1)
    have s2 := b2.size
    clear hb M1 b1 s1 c0 c1 h1 g1 p1 q1
    obtain ⟨c0, c1, h2, g2⟩ := M2
    go_wp2
    go_ret2
    exact ⟨none, 0, rfl, OwnI.nil _ _ _, by simp, b2⟩
  have HJ : joinOn xss yss us vs = true := by unfold joinOn; rw [m1, m2]; rfl
  have HL := Lib.hid (outTo_list (f := f) (us := us) (vs := vs) (g := gS bt xss us vs) (hf HJ))
  rw [joinOf_len HJ, HL.out, listF_len, HJ]
  clear HJ hf
  have FU := Lib.hid (match_facts (stableM_match' m1))
  have FV := Lib.hid (match_facts (stableM_match' m2))
  have u1 : us.length ≤ vs.length := by have := FU.out.zl; have := FV.out.zl; omega
  have u2 : us.length ≤ 5 := by have := FU.out.zl; have := FU.out.hi; omega
  have u3 : us.length ≤ xss.length := by have := FU.out.zl; omega
  have u4 : xss.length ≤ us.length := by have := FU.out.zl; omega
  go_enter Try.func36, Try.ntmps36
  go_wp2_with fail
  (with_reducible refine (specIsStable _ _ _ _ _ _ _ _ _ _ _ _ _ h0 hn HX.out g0 hm HY.out q0 hl hc).mono ?_)
  rintro er w1 ⟨rfl, hb⟩
  rw [m1]
  have M1 := M0.below hb
  have p1 := p0.below hb
  have q1 := q0.below hb
  have b1 := hall.trans (hb.mono hz0)
  have s1 := b1.size
  clear hb M0 hall hz0 h0 g0 q0 p0
  obtain ⟨c0, c1, h1, g1⟩ := M1
  have M1 : MktAt w1 _ _ _ _ _ _ _ _ _ := ⟨c0, c1, h1, g1⟩
  go_wp2_with fail
  (with_reducible refine (specIsStable _ _ _ _ _ _ _ _ _ _ _ _ _ h1 hn HX.out g1 hm HY.out p1 hl' hc').mono ?_)
  rintro er w2 ⟨rfl, hb⟩
  rw [m2]
  have M2 := M1.below hb
  have p2 := p1.below hb
  have q2 := q1.below hb
  have b2 := b1.trans (hb.mono s1)
  have s2 := b2.size
  clear hb M1 b1 s1 c0 c1 h1 g1 p1 q1
  obtain ⟨c0, c1, h2, g2⟩ := M2
  clear c1 m1 m2
  have oe := OwnI.empty w2 (lo := w2.heap.size) (hi := w2.heap.size + 1) (Nat.le_refl _) (by omega)
  have be := (Below.refl w2.heap.size w2).alloc (Nat.le_refl _) (.cells #[] 3)
  have se := World.size_alloc w2 (.cells #[] 3)
  rw [← se] at oe
  replace c0 := old_cell c0 (.cells #[] 3)
  go_wp2
  go_loopw [10, 11, 12, 27] (fun v _ _ i wr => ∃ (k : Nat) (A' : Option Addr) (c' : Nat), k ≤ us.length ∧ i = .int .i64 k ∧ v = .slice A' k c' ∧ OwnI wr w2.heap.size wr.heap.size (.slice A' k c') (listF (gS bt xss us vs) k) ∧ Below w2.heap.size w2 wr) (fun _ _ _ i _ => us.length - (intOf i).toNat)
  case atStart => exact ⟨0, _, 0, Nat.zero_le _, rfl, rfl, oe, be⟩
  case round =>
    obtain ⟨k, A1, cc, hk, rfl, rfl, hown, hb⟩ := hrel
    have zr := hb.size
    clear oe be se c0
    by_cases hlt : k < us.length
    · have i0 : k < xss.length := by omega
      obtain ⟨b, o, A', c', eb, _, hck, hcc, hin⟩ := (h2.below hb).at_ i0
      cases eb
      obtain ⟨bu, ou, eu, _, hcu⟩ := (q2.below hb).at_ hlt
      cases eu
      obtain ⟨bv, ov, ev, _, hcv⟩ := (p2.below hb).at_ (show k < vs.length by omega)
      cases ev
      have ku := hcu k hlt
      have kv := hcv k (by omega)
      clear hcu hcv
      have i1 : (0 : Int) ≤ (k : Int) := by omega
      have i2 : (k : Int) < (xss.length : Int) := by omega
      have i3 : (k : Int) < (us.length : Int) := by omega
      have i4 : (k : Int) < (vs.length : Int) := by omega
      have i5 : k < vs.length := by omega
      have rl : (rx xss k).length ≤ 1099511627776 := by have := rank_len (FU.out.mr k i0); omega
      have K1 := Lib.hid (fun n => Calls.quiet_of_same (n := n) ((specPrefers _ _ c' _ (ix us k) (ix vs k) _ (hin.drewN n) rl).mono fun _ _ ⟨he, hw⟩ => ⟨he, hw.symm⟩))
      have HS : Hid (listF (gS bt xss us vs) (k + 1) = listF (gS bt xss us vs) k ++ [gS bt xss us vs k]) := rfl
      cases hp : (pref (rx xss k) (ix us k) (ix vs k) == bt)
      · have HG : Hid (gS bt xss us vs k = ix vs k) := by show _ = _; unfold gS; rw [hp]; rfl
        go_wp2
        go_quiet ((with_reducible exact K1.out _))
        have hown2 : OwnI (wr.drewN nq) w2.heap.size (wr.drewN nq).heap.size (.slice A1 k cc) (listF (gS bt xss us vs) k) := hown
        have hb2 := hb.trans (below_of_drewN (w' := wr.drewN nq) rfl)
        have zr2 : w2.heap.size ≤ (wr.drewN nq).heap.size := zr
        have kv2 : (wr.drewN nq).cell? _ = _ := kv
        clear hown hb zr hck ku kv hin K1
        generalize wr.drewN nq = w5 at *
        go_wp2_with (at_builtin; refine wpList_append_int _ rfl _ _ rfl w2.heap.size _ k _ _ _ rfl (hown2.alloc _) (ix vs k) _ 1 rfl (new_cell _ _ _ rfl) (by omega) (by simp; omega) (by simp; omega) ?_)
        intro A2 c2' w6 ho2 hon
        rw [← HG.out, ← HS.out] at ho2
        have hb6 : Below w2.heap.size w2 w6 := (hb2.alloc zr2 _).trans (hon.toBelow (Nat.le_refl _) (by simp; omega))
        clear hon hown2
        go_wp2
        go_roundw
        case rel => exact ⟨k + 1, _, _, by omega, by go_num, rfl, ho2, hb6⟩
        case measure => simp [intOf]; omega
      · have HG : Hid (gS bt xss us vs k = ix us k) := by show _ = _; unfold gS; rw [hp]; rfl
        go_wp2
        go_quiet ((with_reducible exact K1.out _))
        have hown2 : OwnI (wr.drewN nq) w2.heap.size (wr.drewN nq).heap.size (.slice A1 k cc) (listF (gS bt xss us vs) k) := hown
        have hb2 := hb.trans (below_of_drewN (w' := wr.drewN nq) rfl)
        have zr2 : w2.heap.size ≤ (wr.drewN nq).heap.size := zr
        have ku2 : (wr.drewN nq).cell? _ = _ := ku
        clear hown hb zr hck ku kv hin K1
        generalize wr.drewN nq = w5 at *
        go_wp2_with (at_builtin; refine wpList_append_int _ rfl _ _ rfl w2.heap.size _ k _ _ _ rfl (hown2.alloc _) (ix us k) _ 1 rfl (new_cell _ _ _ rfl) (by omega) (by simp; omega) (by simp; omega) ?_)
        intro A2 c2' w6 ho2 hon
        rw [← HG.out, ← HS.out] at ho2
        have hb6 : Below w2.heap.size w2 w6 := (hb2.alloc zr2 _).trans (hon.toBelow (Nat.le_refl _) (by simp; omega))
        clear hon hown2
        go_wp2
        go_roundw
        case rel => exact ⟨k + 1, _, _, by omega, by go_num, rfl, ho2, hb6⟩
        case measure => simp [intOf]; omega
    · obtain rfl : k = us.length := by omega
      go_wp2
      go_ret2
      exact ⟨_, _, rfl, hown.mono s2 (Nat.le_refl _), hl, b2.trans (hb.mono s2)⟩
set_option maxHeartbeats 1000000 in
theorem specBetterOf (A : Option Addr) (n c : Nat) (xss : List (List Int)) (B : Option Addr) (m d : Nat) (yss : List (List Int)) (C : Option Addr) (l e : Nat) (us : List Int) (D : Option Addr) (l' e' : Nat) (vs : List Int) (w : World) (h : RowsAt w A n xss) (hn : n ≤ 1048576) (hx : ∀ xs ∈ xss, xs.length ≤ 1048576)
    (g : RowsAt w B m yss) (hm : m ≤ 1048576) (hy : ∀ xs ∈ yss, xs.length ≤ 1048576) (q : IntsAt w C l us) (hl : l ≤ 1048576) (hc : l ≤ e) (p : IntsAt w D l' vs) (hl' : l' ≤ 1048576) (hc' : l' ≤ e') :
    Calls Try.prog 15 #[.agg #[.slice A n c, .slice B m d], .slice C l e, .slice D l' e'] w fun r w' => ∃ A' c', r = .returned (.tuple #[.slice A' (joinOf (betterB xss us vs) xss yss us vs).length c', .bool (joinOn xss yss us vs)]) ∧ OwnI w' w.heap.size w'.heap.size (.slice A' (joinOf (betterB xss us vs) xss yss us vs).length c') (joinOf (betterB xss us vs) xss yss us vs) ∧ (joinOf (betterB xss us vs) xss yss us vs).length ≤ 1048576 ∧ Below w.heap.size w w' := by
  obtain rfl := h.len
  obtain rfl := g.len
  obtain rfl := q.len
  obtain rfl := p.len
  have a1 := pair_below w (.slice A xss.length c) (.slice B yss.length d) 26
  have hz := a1.size
  have HC := Lib.hid (l18Join_any A xss.length c xss B yss.length d yss C us.length e us D vs.length e' vs true (betterB xss us vs) _ (h.below a1) hn hx (g.below a1) hm hy (q.below a1) hl hc (p.below a1) hl' hc' (fun hj i hi => by unfold joinOn at hj; rw [Bool.and_eq_true] at hj; exact gS_better (match_facts (stableM_match' hj.1)) (match_facts (stableM_match' hj.2)) hi))
  clear hx hy
  go_enter Try.func15, Try.ntmps15
  go_wp2_with fail
  generalize w.alloc (.cells #[.slice A xss.length c, .slice B yss.length d] 26) = V at *
  (with_reducible refine HC.out.mono ?_)
  rintro er w1 ⟨A1, c1, rfl, o1, hl1, hb⟩
  have hb2 := a1.trans (hb.mono hz)
  clear hb a1
  go_wp2
  go_ret2
  exact ⟨_, _, rfl, o1.mono hz (Nat.le_refl _), hl1, hb2⟩
set_option maxHeartbeats 1000000 in
theorem specWorseOf (A : Option Addr) (n c : Nat) (xss : List (List Int)) (B : Option Addr) (m d : Nat) (yss : List (List Int)) (C : Option Addr) (l e : Nat) (us : List Int) (D : Option Addr) (l' e' : Nat) (vs : List Int) (w : World) (h : RowsAt w A n xss) (hn : n ≤ 1048576) (hx : ∀ xs ∈ xss, xs.length ≤ 1048576)
    (g : RowsAt w B m yss) (hm : m ≤ 1048576) (hy : ∀ xs ∈ yss, xs.length ≤ 1048576) (q : IntsAt w C l us) (hl : l ≤ 1048576) (hc : l ≤ e) (p : IntsAt w D l' vs) (hl' : l' ≤ 1048576) (hc' : l' ≤ e') :
    Calls Try.prog 21 #[.agg #[.slice A n c, .slice B m d], .slice C l e, .slice D l' e'] w fun r w' => ∃ A' c', r = .returned (.tuple #[.slice A' (joinOf (worseB xss us vs) xss yss us vs).length c', .bool (joinOn xss yss us vs)]) ∧ OwnI w' w.heap.size w'.heap.size (.slice A' (joinOf (worseB xss us vs) xss yss us vs).length c') (joinOf (worseB xss us vs) xss yss us vs) ∧ (joinOf (worseB xss us vs) xss yss us vs).length ≤ 1048576 ∧ Below w.heap.size w w' := by
  obtain rfl := h.len
  obtain rfl := g.len
  obtain rfl := q.len
  obtain rfl := p.len
  have a1 := pair_below w (.slice A xss.length c) (.slice B yss.length d) 26
  have hz := a1.size
  have HC := Lib.hid (l18Join_any A xss.length c xss B yss.length d yss C us.length e us D vs.length e' vs false (worseB xss us vs) _ (h.below a1) hn hx (g.below a1) hm hy (q.below a1) hl hc (p.below a1) hl' hc' (fun _ i _ => gS_worse xss us vs i))
  clear hx hy
  go_enter Try.func21, Try.ntmps21
  go_wp2_with fail
  generalize w.alloc (.cells #[.slice A xss.length c, .slice B yss.length d] 26) = V at *
  (with_reducible refine HC.out.mono ?_)
  rintro er w1 ⟨A1, c1, rfl, o1, hl1, hb⟩
  have hb2 := a1.trans (hb.mono hz)
  clear hb a1
  go_wp2
  go_ret2
  exact ⟨_, _, rfl, o1.mono hz (Nat.le_refl _), hl1, hb2⟩
end Go.Proofs.Ytbhkpingpipdpaa
