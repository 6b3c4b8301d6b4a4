/- The greatest place of a partner. -/
import Derived.Test.YtgehbpeeljifnaaPlaces
import Derived.WalkLawsBesides
namespace Go.Proofs.Ytgehbpeeljifnaa
set_option linter.unusedVariables false
open Go.RowKit

def mF (f : Nat → Int) : Nat → Int
  | 0 => f 0
  | k + 1 => max (mF f k) (f (k + 1))
theorem lmaxTo_listF (f : Nat → Int) {n k : Nat} (h : k < n) : lmaxTo (listF f n) k = mF f k := by
  induction k with
  | zero => rw [lmaxTo, ix_listF h]; rfl
  | succ k ih => rw [lmaxTo, ih (by omega), ix_listF h]; rfl
theorem lmax_listF (f : Nat → Int) {n : Nat} (h : 0 < n) : lmax (listF f n) = mF f (n - 1) := by
  unfold lmax
  rw [listF_len]
  exact lmaxTo_listF f (by omega)
/-- as the reference has it -/
def mostTo (f g : Nat → Int) : Nat → Int
  | 0 => 0
  | k + 1 => max (max (mostTo f g k) (f k)) (g k)
theorem mostTo_eq (f g : Nat → Int) {k : Nat} (hf : ∀ i, i ≤ k → 0 ≤ f i) : mostTo f g (k + 1) = max (mF f k) (mF g k) := by
  induction k with
  | zero => have := hf 0 (Nat.le_refl _); simp only [mostTo, mF]; omega
  | succ k ih =>
    have := ih (fun i hi => hf i (by omega))
    have := hf (k + 1) (Nat.le_refl _)
    rw [mostTo]
    simp only [mF]
    omega
theorem mostTo_bd {f g : Nat → Int} {b : Int} {k : Nat} (b0 : 0 ≤ b) (hf : ∀ i, i < k → f i ≤ b) (hg : ∀ i, i < k → g i ≤ b) : 0 ≤ mostTo f g k ∧ mostTo f g k ≤ b := by
  induction k with
  | zero => simp only [mostTo]; omega
  | succ k ih =>
    have := ih (fun i hi => hf i (by omega)) (fun i hi => hg i (by omega))
    have := hf k (by omega)
    have := hg k (by omega)
    simp only [mostTo]; omega
def regretOf (xss yss : List (List Int)) (zs : List Int) : Int := if matchOk xss yss zs then max (lmax (listF (menP xss zs) zs.length)) (lmax (listF (womP yss zs) zs.length)) else -1
theorem regret_spec {xss yss : List (List Int)} {zs : List Int} (F : MatchF xss yss zs) : max (lmax (listF (menP xss zs) zs.length)) (lmax (listF (womP yss zs) zs.length)) = mostTo (menP xss zs) (womP yss zs) zs.length := by
  have h1 := F.lo
  have h2 := F.zl
  rw [lmax_listF _ (by omega), lmax_listF _ (by omega), ← mostTo_eq _ _ (fun i hi => (men_bd F (show i < xss.length by omega)).1), show zs.length - 1 + 1 = zs.length by omega]
set_option maxHeartbeats 1000000 in
theorem implRegretOf (A : Option Addr) (n c : Nat) (xss : List (List Int)) (B : Option Addr) (m d : Nat) (yss : List (List Int)) (C : Option Addr) (l e : Nat) (zs : List Int) (w : World) (h : RowsAt w A n xss) (hn : n ≤ 1048576) (hx : ∀ xs ∈ xss, xs.length ≤ 1048576)
    (g : RowsAt w B m yss) (hm : m ≤ 1048576) (hy : ∀ xs ∈ yss, xs.length ≤ 1048576) (q : IntsAt w C l zs) (hl : l ≤ 1048576) (hc : l ≤ e) :
    Calls Try.prog 30 #[.agg #[.slice A n c, .slice B m d], .slice C l e] w fun e w' => e = .returned ((.int .i64 (regretOf xss yss zs))) ∧ Below w.heap.size w w' := by
  obtain rfl := h.len
  obtain rfl := g.len
  obtain rfl := q.len
  have HX := Lib.hid hx
  have HY := Lib.hid hy
  clear hx hy
  unfold regretOf
  have hall := pair_below w (.slice A xss.length c) (.slice B yss.length d) 32
  have hs0 := pair_size w (.slice A xss.length c) (.slice B yss.length d) 32
  have h0 := h.below hall
  have g0 := g.below hall
  have q0 := q.below hall
  have M0 := MktAt.new h g (c := c) (d := d) 32
  have hz0 : w.heap.size ≤ (w.alloc (.cells #[.slice A xss.length c, .slice B yss.length d] 32)).heap.size := by omega
  cases m1 : matchOk xss yss zs
  · go_enter Try.func30, Try.ntmps30
    go_wp2_with fail
    (with_reducible refine (implIsMatching _ _ _ _ _ _ _ _ _ _ _ _ _ h0 hn HX.out g0 hm HY.out q0 hl hc).mono ?_)
    rintro e w1 ⟨rfl, hb⟩
    rw [m1]
    have hb2 := hall.trans (hb.mono hz0)
    clear hb hall hs0 M0 hz0
    go_wp2
    go_ret
    exact ⟨rfl, hb2⟩
  have F := match_facts m1
  have FF := Lib.hid F
  have f1 := F.hi
  have f2 := F.lo
  have fz1 := Nat.le_of_eq F.zl
  have fz2 := Nat.le_of_eq F.zl.symm
  clear F
  go_enter Try.func30, Try.ntmps30
  go_wp2_with fail
  (with_reducible refine (implIsMatching _ _ _ _ _ _ _ _ _ _ _ _ _ h0 hn HX.out g0 hm HY.out q0 hl hc).mono ?_)
  rintro e w1 ⟨rfl, hb⟩
  rw [m1]
  have hb2 := hall.trans (hb.mono hz0)
  have s2 := hb2.size
  have M1 := M0.below hb
  have q1 := q0.below hb
  clear hb hall hs0 M0 hz0
  obtain ⟨c0, c1, h1, g1⟩ := M1
  go_wp2_with fail
  (with_reducible refine (places_any _ _ _ _ _ _ _ _ _ _ _ _ _ h1 g1 q1 FF.out).mono ?_)
  rintro e w2 ⟨A1, e1, A2, e2, rfl, p1, p2, hb⟩
  have hb3 := hb2.trans (hb.mono s2)
  clear hb hb2 c0 c1
  go_wp2_with fail
  (with_reducible refine (max_any _ _ _ _ _ p1 (by omega) (by omega)).mono ?_)
  rintro e w3 ⟨rfl, rfl⟩
  go_wp2_with fail
  (with_reducible refine (max_any _ _ _ _ _ p2 (by omega) (by omega)).mono ?_)
  rintro e w3 ⟨rfl, rfl⟩
  go_wp2
  all_goals go_ret
  all_goals exact ⟨ret_i (by omega), hb3⟩
set_option maxHeartbeats 1000000 in
theorem specRegretOf (A : Option Addr) (n c : Nat) (xss : List (List Int)) (B : Option Addr) (m d : Nat) (yss : List (List Int)) (C : Option Addr) (l e : Nat) (zs : List Int) (w : World) (h : RowsAt w A n xss) (hn : n ≤ 1048576) (hx : ∀ xs ∈ xss, xs.length ≤ 1048576)
    (g : RowsAt w B m yss) (hm : m ≤ 1048576) (hy : ∀ xs ∈ yss, xs.length ≤ 1048576) (q : IntsAt w C l zs) (hl : l ≤ 1048576) (hc : l ≤ e) :
    Calls Try.prog 29 #[.agg #[.slice A n c, .slice B m d], .slice C l e] w fun e w' => e = .returned ((.int .i64 (regretOf xss yss zs))) ∧ Below w.heap.size w w' := by
  obtain rfl := h.len
  obtain rfl := g.len
  obtain rfl := q.len
  have HX := Lib.hid hx
  have HY := Lib.hid hy
  clear hx hy
  unfold regretOf
  have hall := pair_below w (.slice A xss.length c) (.slice B yss.length d) 32
  have hs0 := pair_size w (.slice A xss.length c) (.slice B yss.length d) 32
  have h0 := h.below hall
  have g0 := g.below hall
  have q0 := q.below hall
  have M0 := MktAt.new h g (c := c) (d := d) 32
  have hz0 : w.heap.size ≤ (w.alloc (.cells #[.slice A xss.length c, .slice B yss.length d] 32)).heap.size := by omega
  cases m1 : matchOk xss yss zs
  · go_enter Try.func29, Try.ntmps29
    go_wp2_with fail
    (with_reducible refine (specIsMatching _ _ _ _ _ _ _ _ _ _ _ _ _ h0 hn HX.out g0 hm HY.out q0 hl hc).mono ?_)
    rintro e w1 ⟨rfl, hb⟩
    rw [m1]
    have hb2 := hall.trans (hb.mono hz0)
    clear hb hall hs0 M0 hz0
    go_wp2
    go_ret
    exact ⟨rfl, hb2⟩
  have F := match_facts m1
  have FF := Lib.hid F
  have f1 := F.hi
  have f2 := F.lo
  have fz1 := Nat.le_of_eq F.zl
  have fz2 := Nat.le_of_eq F.zl.symm
  clear F
  rw [if_pos rfl, regret_spec FF.out]
  go_enter Try.func29, Try.ntmps29
  go_wp2_with fail
  (with_reducible refine (specIsMatching _ _ _ _ _ _ _ _ _ _ _ _ _ h0 hn HX.out g0 hm HY.out q0 hl hc).mono ?_)
  rintro e w1 ⟨rfl, hb⟩
  rw [m1]
  have hb2 := hall.trans (hb.mono hz0)
  have s2 := hb2.size
  have M1 := M0.below hb
  have q1 := q0.below hb
  clear hb hall hs0 M0 hz0
  obtain ⟨c0, c1, h1, g1⟩ := M1
  go_wp2
  go_loopw [5, 6, 7, 14] (fun x _ _ i wr => ∃ k : Nat, k ≤ zs.length ∧ i = .int .i64 k ∧ x = .int .i64 (mostTo (menP xss zs) (womP yss zs) k) ∧ Below w1.heap.size w1 wr) (fun _ _ _ i _ => zs.length - (intOf i).toNat)
  case atStart => exact ⟨0, Nat.zero_le _, rfl, rfl, Below.refl _ _⟩
  case round =>
    obtain ⟨k, hk, rfl, rfl, hbr⟩ := hrel
    have d0 := cell_carry hbr c0
    have d1 := cell_carry hbr c1
    clear c0 c1
    by_cases hlt : k < zs.length
    · obtain ⟨j, hj⟩ : ∃ j : Nat, ix zs k = (j : Int) := ⟨(ix zs k).toNat, by have := FF.out.z k (by omega); omega⟩
      have hjl : j < xss.length := by have := FF.out.z k (by omega); omega
      have wl := FF.out.wl
      obtain ⟨b, o, A', c', rfl, _, hck, hcc, hin⟩ := (h1.below hbr).at_ (show k < xss.length by omega)
      obtain ⟨b', o', B', d', rfl, _, hck', hcc', hin'⟩ := (g1.below hbr).at_ (show j < yss.length by omega)
      obtain ⟨bz, oz, rfl, _, hcz⟩ := (q1.below hbr).at_ hlt
      have kz := hcz k hlt
      have bm := men_bd FF.out (show k < xss.length by omega)
      have bw := wom_bd FF.out (show k < xss.length by omega)
      have em : menP xss zs k = place (rx xss k) (j : Int) := by unfold menP; rw [hj]
      have ew : womP yss zs k = place (rx yss j) (k : Int) := by unfold womP; rw [hj]; rfl
      have HM : Hid (mostTo (menP xss zs) (womP yss zs) (k + 1) = max (max (mostTo (menP xss zs) (womP yss zs) k) (menP xss zs k)) (womP yss zs k)) := rfl
      have sb := mostTo_bd (f := menP xss zs) (g := womP yss zs) (b := 5) (k := k) (by omega) (fun i hi => by have := men_bd FF.out (show i < xss.length by omega); omega) (fun i hi => by have := wom_bd FF.out (show i < xss.length by omega); omega)
      rw [em] at HM bm
      rw [ew] at HM bw
      rw [hj] at kz
      have rl : (rx xss k).length ≤ 1099511627776 := by have := rank_len (FF.out.mr k (by omega)); omega
      have rl' : (rx yss j).length ≤ 1099511627776 := by have := rank_len (FF.out.wr j hjl); omega
      have i1 : (k : Int) < (xss.length : Int) := by omega
      have i2 : (j : Int) < (yss.length : Int) := by omega
      have i3 : (0 : Int) ≤ (k : Int) := by omega
      have i4 : (0 : Int) ≤ (j : Int) := by omega
      clear hcz hj em ew wl
      have K1 := Lib.hid (fun n => Calls.quiet_of_same (n := n) ((specPlaceOf_any _ _ c' _ (j : Int) _ (hin.drewN n) rl).mono fun _ _ ⟨he, hw⟩ => ⟨he, hw.symm⟩))
      have K2 := Lib.hid (fun n => Calls.quiet_of_same (n := n) ((specPlaceOf_any _ _ d' _ (k : Int) _ (hin'.drewN n) rl').mono fun _ _ ⟨he, hw⟩ => ⟨he, hw.symm⟩))
      generalize mostTo (menP xss zs) (womP yss zs) k = mo at *
      generalize hp : place (rx xss k) (j : Int) = p at *
      generalize hq : place (rx yss j) (k : Int) = q at *
      clear hp hq
      go_wp2
      go_quiet ((first | (with_reducible exact K1.out _) | (with_reducible exact K2.out _)))
      go_wp2
      all_goals
        go_roundw
        case rel => exact ⟨k + 1, by omega, by go_num, congrArg (Value.int .i64) (by rw [HM.out]; (first | omega | (simp only [max_if]; done) | (simp only [max_if]; omega))), hbr.trans (below_of_drewN rfl)⟩
        case measure => simp [intOf]; omega
    · obtain rfl : k = zs.length := by omega
      go_wp2
      go_ret
      exact ⟨rfl, hb2.trans (hbr.mono s2)⟩
end Go.Proofs.Ytgehbpeeljifnaa
