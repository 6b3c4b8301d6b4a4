/- One matching is at least as good for each man as another one. -/
import Derived.Test.YtgehbpeeljifnaaMkt
namespace Go.Proofs.Ytgehbpeeljifnaa
set_option linter.unusedVariables false
open Go.RowKit

set_option maxHeartbeats 1000000 in
theorem implAtLeastAsGood (A : Option Addr) (n c : Nat) (xss : List (List Int)) (B : Option Addr) (m d : Nat) (yss : List (List Int)) (C : Option Addr) (l e : Nat) (us : List Int) (D : Option Addr) (l' e' : Nat) (vs : List Int) (w : World) (h : RowsAt w A n xss) (hn : n ≤ 1048576) (hx : ∀ xs ∈ xss, xs.length ≤ 1048576)
    (g : RowsAt w B m yss) (hm : m ≤ 1048576) (hy : ∀ xs ∈ yss, xs.length ≤ 1048576) (q : IntsAt w C l us) (hl : l ≤ 1048576) (hc : l ≤ e) (p : IntsAt w D l' vs) (hl' : l' ≤ 1048576) (hc' : l' ≤ e') :
    Calls Try.prog 26 #[.agg #[.slice A n c, .slice B m d], .slice C l e, .slice D l' e'] w fun e w' => e = .returned (.bool (atLeast xss yss us vs)) ∧ Below w.heap.size w w' := by
  obtain rfl := h.len
  obtain rfl := g.len
  obtain rfl := q.len
  obtain rfl := p.len
  have HX := Lib.hid hx
  have HY := Lib.hid hy
  clear hx hy
  unfold atLeast
  have hall := pair_below w (.slice A xss.length c) (.slice B yss.length d) 32
  have hs0 := pair_size w (.slice A xss.length c) (.slice B yss.length d) 32
  have h0 := h.below hall
  have g0 := g.below hall
  have q0 := q.below hall
  have p0 := p.below hall
  have M0 := MktAt.new h g (c := c) (d := d) 32
  have hz0 : w.heap.size ≤ (w.alloc (.cells #[.slice A xss.length c, .slice B yss.length d] 32)).heap.size := by omega
  cases m1 : matchOk xss yss us
  · go_enter Try.func26, Try.ntmps26
    go_wp2_with fail
    (with_reducible refine (implIsMatching _ _ _ _ _ _ _ _ _ _ _ _ _ h0 hn HX.out g0 hm HY.out q0 hl hc).mono ?_)
    rintro e w1 ⟨rfl, hb⟩
    rw [m1]
    have hb2 := hall.trans (hb.mono hz0)
    clear hb hall hs0 M0 hz0
    go_wp2
    go_ret
    exact ⟨rfl, hb2⟩
  cases m2 : matchOk xss yss vs
  · go_enter Try.func26, Try.ntmps26
    go_wp2_with fail
    (with_reducible refine (implIsMatching _ _ _ _ _ _ _ _ _ _ _ _ _ h0 hn HX.out g0 hm HY.out q0 hl hc).mono ?_)
    rintro e w1 ⟨rfl, hb⟩
    rw [m1]
    have hb2 := hall.trans (hb.mono hz0)
    have s2 := hb2.size
    obtain ⟨c0, c1, h1, g1⟩ := M0.below hb
    have p1 := p0.below hb
    clear hb hall hs0 M0 hz0
    go_wp2_with fail
    (with_reducible refine (implIsMatching _ _ _ _ _ _ _ _ _ _ _ _ _ h1 hn HX.out g1 hm HY.out p1 hl' hc').mono ?_)
    rintro e w2 ⟨rfl, hb⟩
    rw [m2]
    have hb3 := hb2.trans (hb.mono s2)
    clear hb hb2 c0 c1
    go_wp2
    go_ret
    exact ⟨rfl, hb3⟩
  have FU := Lib.hid (match_facts m1)
  have FV := Lib.hid (match_facts m2)
  have f1 := (match_facts m1).hi
  have f2 := (match_facts m1).lo
  go_enter Try.func26, Try.ntmps26
  go_wp2_with fail
  (with_reducible refine (implIsMatching _ _ _ _ _ _ _ _ _ _ _ _ _ h0 hn HX.out g0 hm HY.out q0 hl hc).mono ?_)
  rintro e w1 ⟨rfl, hb⟩
  rw [m1]
  have hb2 := hall.trans (hb.mono hz0)
  have s2 := hb2.size
  have M1 := M0.below hb
  obtain ⟨c0, c1, h1, g1⟩ := M1
  have p1 := p0.below hb
  have q1 := q0.below hb
  have M1 : MktAt w1 _ _ _ _ _ _ _ _ _ := ⟨c0, c1, h1, g1⟩
  clear hb hall hs0 M0 hz0
  go_wp2_with fail
  (with_reducible refine (implIsMatching _ _ _ _ _ _ _ _ _ _ _ _ _ h1 hn HX.out g1 hm HY.out p1 hl' hc').mono ?_)
  rintro e w2 ⟨rfl, hb⟩
  rw [m2]
  have hb3 := hb2.trans (hb.mono s2)
  have s3 := hb3.size
  have M2 := M1.below hb
  have p2 := p1.below hb
  have q2 := q1.below hb
  clear hb hb2 c0 c1 M1 h1 g1
  obtain ⟨c0, c1, h2, g2⟩ := M2
  go_wp2
  go_loopw [7, 20] (fun _ i wr => ∃ k : Nat, k ≤ xss.length ∧ i = .int .i64 k ∧ allN (fun i => !pref (rx xss i) (ix vs i) (ix us i)) k = true ∧ Below w2.heap.size w2 wr) (fun _ i _ => xss.length - (intOf i).toNat)
  case atStart => exact ⟨0, Nat.zero_le _, rfl, rfl, Below.refl _ _⟩
  case round =>
    obtain ⟨k, hk, rfl, hall, hbr⟩ := hrel
    have HA := Lib.hid hall
    clear hall
    have d0 := cell_carry hbr c0
    clear c0 c1
    have zu := FU.out.zl
    have zv := FV.out.zl
    by_cases hlt : k < xss.length
    · obtain ⟨b, o, A', c', rfl, _, hck, hcc, hin⟩ := (h2.below hbr).at_ hlt
      obtain ⟨b1, o1, rfl, _, hcu⟩ := (q2.below hbr).at_ (show k < us.length by omega)
      obtain ⟨b2, o2, rfl, _, hcv⟩ := (p2.below hbr).at_ (show k < vs.length by omega)
      have ku := hcu k (by omega)
      have kv := hcv k (by omega)
      clear hcu hcv
      have i1 : (0 : Int) ≤ (k : Int) := by omega
      have i2 : (k : Int) < (xss.length : Int) := by omega
      have i3 : (k : Int) < (us.length : Int) := by omega
      have i4 : (k : Int) < (vs.length : Int) := by omega
      have rl := rank_len (FU.out.mr k hlt)
      have RL : (rx xss k).length ≤ 1099511627776 := by omega
      clear rl zu zv
      have K1 := Lib.hid (fun n => Calls.quiet_of_same (n := n) ((implPrefers _ _ c' _ (ix vs k) (ix us k) _ (hin.drewN n) RL).mono fun _ _ ⟨he, hw⟩ => ⟨he, hw.symm⟩))
      cases hp : pref (rx xss k) (ix vs k) (ix us k)
      · have HN := Lib.hid (allN_step (p := fun i => !pref (rx xss i) (ix vs i) (ix us i)) HA.out (by rw [hp]; rfl))
        rw [hp] at K1
        go_wp2
        go_quiet ((with_reducible exact K1.out _))
        go_wp2
        go_roundw
        case rel => exact ⟨k + 1, by omega, by go_num, HN.out, hbr.trans (below_of_drewN rfl)⟩
        case measure => simp [intOf]; omega
      · have HF := Lib.hid (allN_false (p := fun i => !pref (rx xss i) (ix vs i) (ix us i)) hlt (by rw [hp]; rfl))
        rw [hp] at K1
        go_wp2
        go_quiet ((with_reducible exact K1.out _))
        go_wp2
        go_ret
        exact ⟨ret_b (by rw [HF.out]; rfl), hb3.trans ((hbr.trans (below_of_drewN rfl)).mono s3)⟩
    · obtain rfl : k = xss.length := by omega
      have nu : ¬ (xss.length < us.length) := by omega
      have nu2 : us.length = xss.length := zu
      rw [← zu]
      clear zu zv
      go_wp2
      go_ret
      exact ⟨ret_b (by rw [HA.out]; rfl), hb3.trans (hbr.mono s3)⟩
set_option maxHeartbeats 1000000 in
theorem specAtLeastAsGood (A : Option Addr) (n c : Nat) (xss : List (List Int)) (B : Option Addr) (m d : Nat) (yss : List (List Int)) (C : Option Addr) (l e : Nat) (us : List Int) (D : Option Addr) (l' e' : Nat) (vs : List Int) (w : World) (h : RowsAt w A n xss) (hn : n ≤ 1048576) (hx : ∀ xs ∈ xss, xs.length ≤ 1048576)
    (g : RowsAt w B m yss) (hm : m ≤ 1048576) (hy : ∀ xs ∈ yss, xs.length ≤ 1048576) (q : IntsAt w C l us) (hl : l ≤ 1048576) (hc : l ≤ e) (p : IntsAt w D l' vs) (hl' : l' ≤ 1048576) (hc' : l' ≤ e') :
    Calls Try.prog 25 #[.agg #[.slice A n c, .slice B m d], .slice C l e, .slice D l' e'] w fun e w' => e = .returned (.bool (atLeast xss yss us vs)) ∧ Below w.heap.size w w' := by
  obtain rfl := h.len
  obtain rfl := g.len
  obtain rfl := q.len
  obtain rfl := p.len
  have HX := Lib.hid hx
  have HY := Lib.hid hy
  clear hx hy
  unfold atLeast
  have hall := pair_below w (.slice A xss.length c) (.slice B yss.length d) 32
  have hs0 := pair_size w (.slice A xss.length c) (.slice B yss.length d) 32
  have h0 := h.below hall
  have g0 := g.below hall
  have q0 := q.below hall
  have p0 := p.below hall
  have M0 := MktAt.new h g (c := c) (d := d) 32
  have hz0 : w.heap.size ≤ (w.alloc (.cells #[.slice A xss.length c, .slice B yss.length d] 32)).heap.size := by omega
  cases m1 : matchOk xss yss us
  · go_enter Try.func25, Try.ntmps25
    go_wp2_with fail
    (with_reducible refine (specIsMatching _ _ _ _ _ _ _ _ _ _ _ _ _ h0 hn HX.out g0 hm HY.out q0 hl hc).mono ?_)
    rintro e w1 ⟨rfl, hb⟩
    rw [m1]
    have hb2 := hall.trans (hb.mono hz0)
    clear hb hall hs0 M0 hz0
    go_wp2
    go_ret
    exact ⟨rfl, hb2⟩
  cases m2 : matchOk xss yss vs
  · go_enter Try.func25, Try.ntmps25
    go_wp2_with fail
    (with_reducible refine (specIsMatching _ _ _ _ _ _ _ _ _ _ _ _ _ h0 hn HX.out g0 hm HY.out q0 hl hc).mono ?_)
    rintro e w1 ⟨rfl, hb⟩
    rw [m1]
    have hb2 := hall.trans (hb.mono hz0)
    have s2 := hb2.size
    obtain ⟨c0, c1, h1, g1⟩ := M0.below hb
    have p1 := p0.below hb
    clear hb hall hs0 M0 hz0
    go_wp2_with fail
    (with_reducible refine (specIsMatching _ _ _ _ _ _ _ _ _ _ _ _ _ h1 hn HX.out g1 hm HY.out p1 hl' hc').mono ?_)
    rintro e w2 ⟨rfl, hb⟩
    rw [m2]
    have hb3 := hb2.trans (hb.mono s2)
    clear hb hb2 c0 c1
    go_wp2
    go_ret
    exact ⟨rfl, hb3⟩
  have FU := Lib.hid (match_facts m1)
  have FV := Lib.hid (match_facts m2)
  have f1 := (match_facts m1).hi
  have f2 := (match_facts m1).lo
  go_enter Try.func25, Try.ntmps25
  go_wp2_with fail
  (with_reducible refine (specIsMatching _ _ _ _ _ _ _ _ _ _ _ _ _ h0 hn HX.out g0 hm HY.out q0 hl hc).mono ?_)
  rintro e w1 ⟨rfl, hb⟩
  rw [m1]
  have hb2 := hall.trans (hb.mono hz0)
  have s2 := hb2.size
  have M1 := M0.below hb
  obtain ⟨c0, c1, h1, g1⟩ := M1
  have p1 := p0.below hb
  have q1 := q0.below hb
  have M1 : MktAt w1 _ _ _ _ _ _ _ _ _ := ⟨c0, c1, h1, g1⟩
  clear hb hall hs0 M0 hz0
  go_wp2_with fail
  (with_reducible refine (specIsMatching _ _ _ _ _ _ _ _ _ _ _ _ _ h1 hn HX.out g1 hm HY.out p1 hl' hc').mono ?_)
  rintro e w2 ⟨rfl, hb⟩
  rw [m2]
  have hb3 := hb2.trans (hb.mono s2)
  have s3 := hb3.size
  have M2 := M1.below hb
  have p2 := p1.below hb
  have q2 := q1.below hb
  clear hb hb2 c0 c1 M1 h1 g1
  obtain ⟨c0, c1, h2, g2⟩ := M2
  go_wp2
  go_loopw [7, 8, 22] (fun _ _ i wr => ∃ k : Nat, k ≤ xss.length ∧ i = .int .i64 k ∧ allN (fun i => !pref (rx xss i) (ix vs i) (ix us i)) k = true ∧ Below w2.heap.size w2 wr) (fun _ _ i _ => xss.length - (intOf i).toNat)
  case atStart => exact ⟨0, Nat.zero_le _, rfl, rfl, Below.refl _ _⟩
  case round =>
    obtain ⟨k, hk, rfl, hall, hbr⟩ := hrel
    have HA := Lib.hid hall
    clear hall
    have d0 := cell_carry hbr c0
    clear c0 c1
    have zu := FU.out.zl
    have zv := FV.out.zl
    by_cases hlt : k < xss.length
    · obtain ⟨b, o, A', c', rfl, _, hck, hcc, hin⟩ := (h2.below hbr).at_ hlt
      obtain ⟨b1, o1, rfl, _, hcu⟩ := (q2.below hbr).at_ (show k < us.length by omega)
      obtain ⟨b2, o2, rfl, _, hcv⟩ := (p2.below hbr).at_ (show k < vs.length by omega)
      have ku := hcu k (by omega)
      have kv := hcv k (by omega)
      clear hcu hcv
      have i1 : (0 : Int) ≤ (k : Int) := by omega
      have i2 : (k : Int) < (xss.length : Int) := by omega
      have i3 : (k : Int) < (us.length : Int) := by omega
      have i4 : (k : Int) < (vs.length : Int) := by omega
      have rl := rank_len (FU.out.mr k hlt)
      have RL : (rx xss k).length ≤ 1099511627776 := by omega
      clear rl zu zv
      have K1 := Lib.hid (fun n => Calls.quiet_of_same (n := n) ((specPrefers _ _ c' _ (ix vs k) (ix us k) _ (hin.drewN n) RL).mono fun _ _ ⟨he, hw⟩ => ⟨he, hw.symm⟩))
      cases hp : pref (rx xss k) (ix vs k) (ix us k)
      · have HN := Lib.hid (allN_step (p := fun i => !pref (rx xss i) (ix vs i) (ix us i)) HA.out (by rw [hp]; rfl))
        rw [hp] at K1
        go_wp2
        go_quiet ((with_reducible exact K1.out _))
        go_wp2
        go_roundw
        case rel => exact ⟨k + 1, by omega, by go_num, HN.out, hbr.trans (below_of_drewN rfl)⟩
        case measure => simp [intOf]; omega
      · have HF := Lib.hid (allN_false (p := fun i => !pref (rx xss i) (ix vs i) (ix us i)) hlt (by rw [hp]; rfl))
        rw [hp] at K1
        go_wp2
        go_quiet ((with_reducible exact K1.out _))
        go_wp2
        go_ret
        exact ⟨ret_b (by rw [HF.out]; rfl), hb3.trans ((hbr.trans (below_of_drewN rfl)).mono s3)⟩
    · obtain rfl : k = xss.length := by omega
      have nu : ¬ (xss.length < us.length) := by omega
      clear zu zv
      go_wp2
      go_ret
      exact ⟨ret_b (by rw [HA.out]; rfl), hb3.trans (hbr.mono s3)⟩
end Go.Proofs.Ytgehbpeeljifnaa
