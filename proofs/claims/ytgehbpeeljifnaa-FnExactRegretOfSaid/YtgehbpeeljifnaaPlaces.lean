/- Places of partners: their lists, sums, and the greatest. -/
import Derived.Test.YtgehbpeeljifnaaMkt
import Derived.Test.YtgehbpeeljifnaaSums
import Derived.Test.YtgehbpeeljifnaaCounts
namespace Go.Proofs.Ytgehbpeeljifnaa
set_option linter.unusedVariables false
open Go.RowKit

/-- for each man the place of his woman, for each woman by her man's number her place for him -/
def menP (xss : List (List Int)) (zs : List Int) (i : Nat) : Int := place (rx xss i) (ix zs i)
def womP (yss : List (List Int)) (zs : List Int) (i : Nat) : Int := place (rx yss (ix zs i).toNat) i
def listF (f : Nat → Int) : Nat → List Int
  | 0 => []
  | k + 1 => listF f k ++ [f k]
theorem listF_len (f : Nat → Int) (k : Nat) : (listF f k).length = k := by
  induction k with
  | zero => rfl
  | succ k ih => simp [listF, ih]
theorem listF_mem {f : Nat → Int} {k : Nat} {x : Int} : x ∈ listF f k ↔ ∃ i, i < k ∧ x = f i := by
  induction k with
  | zero => simp [listF]
  | succ k ih =>
    simp only [listF, List.mem_append, ih, List.mem_singleton]
    constructor
    · rintro (⟨i, h, e⟩ | e)
      · exact ⟨i, by omega, e⟩
      · exact ⟨k, by omega, e⟩
    · rintro ⟨i, h, e⟩
      by_cases hk : i = k
      · subst hk; exact .inr e
      · exact .inl ⟨i, by omega, e⟩
theorem ix_listF {f : Nat → Int} {k j : Nat} (h : j < k) : ix (listF f k) j = f j := by
  induction k with
  | zero => omega
  | succ k ih =>
    have hl := listF_len f k
    rw [listF, ix_lt (by simp [hl]; omega)]
    by_cases e : j < k
    · rw [List.getElem_append_left (by omega), ← ix_lt]
      exact ih e
    · obtain rfl : j = k := by omega
      rw [List.getElem_append_right (by omega)]
      simp [hl]
theorem lsum_listF (f : Nat → Int) (k : Nat) : lsum (listF f (k + 1)) = lsum (listF f k) + f k := by
  rw [listF, lsum_append]; simp [lsum]
theorem men_bd {xss yss : List (List Int)} {zs : List Int} (F : MatchF xss yss zs) {i : Nat} (hi : i < xss.length) : 0 ≤ menP xss zs i ∧ menP xss zs i < xss.length := by
  have z := F.z i hi
  exact rank_place (F.mr i hi) z.1 z.2
theorem wom_bd {xss yss : List (List Int)} {zs : List Int} (F : MatchF xss yss zs) {i : Nat} (hi : i < xss.length) : 0 ≤ womP yss zs i ∧ womP yss zs i < xss.length := by
  have z := F.z i hi
  exact rank_place (F.wr (ix zs i).toNat (by omega)) (by omega) (by omega)

set_option maxHeartbeats 1000000 in
theorem places_any (A : Option Addr) (n c : Nat) (xss : List (List Int)) (B : Option Addr) (m d : Nat) (yss : List (List Int)) (C : Option Addr) (l e : Nat) (zs : List Int) (w : World) (h : RowsAt w A n xss)
    (g : RowsAt w B m yss) (q : IntsAt w C l zs) (F : MatchF xss yss zs) :
    Calls Try.prog 53 #[.agg #[.slice A n c, .slice B m d], .slice C l e] w fun e w' => ∃ A1 c1 A2 c2, e = .returned (.tuple #[.slice A1 l c1, .slice A2 l c2]) ∧
      IntsAt w' A1 l (listF (menP xss zs) l) ∧ IntsAt w' A2 l (listF (womP yss zs) l) ∧ Below w.heap.size w w' := by
  obtain rfl := h.len
  obtain rfl := g.len
  obtain rfl := q.len
  have FF := Lib.hid F
  have f1 := F.hi
  have f2 := F.lo
  have hall := pair_below w (.slice A xss.length c) (.slice B yss.length d) 32
  have hs0 := pair_size w (.slice A xss.length c) (.slice B yss.length d) 32
  have M0 := MktAt.new h g (c := c) (d := d) 32
  have q0 := q.below hall
  clear F
  go_enter Try.func53, Try.ntmps53
  go_wp2
  go_loopw [6, 7, 8, 9, 12] (fun u v _ _ i wr => ∃ (k : Nat) (A1 : Option Addr) (c1 l1 h1 : Nat) (A2 : Option Addr) (c2 l2 h2 : Nat), k ≤ xss.length ∧ i = .int .i64 k ∧ u = .slice A1 k c1 ∧ v = .slice A2 k c2 ∧
      OwnI wr l1 h1 (.slice A1 k c1) (listF (menP xss zs) k) ∧ OwnI wr l2 h2 (.slice A2 k c2) (listF (womP yss zs) k) ∧ (h1 ≤ l2 ∨ h2 ≤ l1) ∧ (w.heap.size + 1 ≤ l1 ∧ w.heap.size + 1 ≤ l2 ∧ l1 ≤ wr.heap.size ∧ l2 ≤ wr.heap.size ∧ h1 ≤ wr.heap.size ∧ h2 ≤ wr.heap.size) ∧
      Below (w.heap.size + 1) (w.alloc (.cells #[.slice A xss.length c, .slice B yss.length d] 32)) wr) (fun _ _ _ _ i _ => xss.length - (intOf i).toNat)
  case atStart => exact ⟨0, none, 0, w.heap.size + 1, w.heap.size + 1, none, 0, w.heap.size + 1, w.heap.size + 1, Nat.zero_le _, rfl, rfl, rfl, OwnI.nil _ _ _, OwnI.nil _ _ _, by omega, ⟨by omega, by omega, by omega, by omega, by omega, by omega⟩, Below.refl _ _⟩
  case round =>
    obtain ⟨k, A1, c1, l1, h1, A2, c2, l2, h2, hk, rfl, rfl, rfl, ow1, ow2, hd, ⟨z1, z2, z3, z4, z5, z6⟩, hbr⟩ := hrel
    rw [← hs0] at hbr
    have zr := hbr.size
    have M1 := M0.below hbr
    have q1 := q0.below hbr
    have zl := FF.out.zl
    have wl := FF.out.wl
    rw [hs0] at hbr
    by_cases hlt : k < xss.length
    · obtain ⟨j, hj⟩ : ∃ j : Nat, ix zs k = (j : Int) := ⟨(ix zs k).toNat, by have := FF.out.z k hlt; omega⟩
      have hjl : j < xss.length := by have := FF.out.z k hlt; omega
      obtain ⟨d0, d1, mm, ww⟩ := M1
      obtain ⟨b, o, A', c', rfl, _, hck, hcc, hin⟩ := mm.at_ hlt
      obtain ⟨b', o', B', d', rfl, _, hck', hcc', hin'⟩ := ww.at_ (show j < yss.length by omega)
      obtain ⟨bz, oz, rfl, _, hcz⟩ := q1.at_ (show k < zs.length by omega)
      have kz := hcz k (by omega)
      have bm := men_bd FF.out hlt
      have bw := wom_bd FF.out hlt
      rw [hj] at kz
      clear hcz mm ww
      have rl : (rx xss k).length ≤ 1099511627776 := by have := rank_len (FF.out.mr k hlt); omega
      have rl' : (rx yss j).length ≤ 1099511627776 := by have := rank_len (FF.out.wr j hjl); omega
      have HM : Hid (listF (menP xss zs) (k + 1) = listF (menP xss zs) k ++ [place (rx xss k) (j : Int)]) := by show listF (menP xss zs) (k + 1) = _; rw [listF, menP, hj]
      have HW : Hid (listF (womP yss zs) (k + 1) = listF (womP yss zs) k ++ [place (rx yss j) (k : Int)]) := by show listF (womP yss zs) (k + 1) = _; rw [listF, womP, hj]; rfl
      have i1 : j < zs.length := by omega
      have i2 : j < yss.length := by omega
      have i3 : k < zs.length := by omega
      clear hj zl wl
      go_wp2_with (first
        | (go_at_call 65; (with_reducible refine (implPlaceOf_any _ _ _ _ _ _ hin rl).mono ?_); rintro e w' ⟨rfl, rfl⟩)
        | (at_builtin; refine wpList_append_int2 _ rfl _ _ rfl l1 h1 k _ _ _ rfl (ow1.alloc _) (place (rx xss k) (j : Int)) _ 1 rfl (new_cell _ _ _ rfl) (by omega) (by simp; omega) (by simp; omega) ?_))
      intro A3 c3 w3 l3 h3 o3 on hs3 hat
      rw [← HM.out] at o3
      have b3 := (hbr.alloc (by omega) (.cells #[.int .i64 (place (rx xss k) (j : Int))] 3)).trans (on.toBelow (B := w.heap.size + 1) z1 (by simp; omega))
      have o4 := (ow2.alloc (.cells #[.int .i64 (place (rx xss k) (j : Int))] 3)).only on (by omega)
      have hs0' := World.size_alloc wr (.cells #[.int .i64 (place (rx xss k) (j : Int))] 3)
      have M3 := M0.below (hs0.symm ▸ b3)
      have q3 := q0.below (hs0.symm ▸ b3)
      obtain ⟨d0', d1', _, ww'⟩ := M3
      obtain ⟨b'', o'', B'', d'', eb, _, hck'', hcc'', hin''⟩ := ww'.at_ (show j < yss.length by omega)
      have sep3 : (h3 ≤ l2 ∨ h2 ≤ l3) ∧ (w.heap.size + 1 ≤ l3 ∧ l3 ≤ w3.heap.size ∧ h3 ≤ w3.heap.size) := by omega
      have zw3 : wr.heap.size + 1 ≤ w3.heap.size := hs3
      clear on hs0' ow1 ow2 hbr hat hck hck' d0 d1 hin hin' kz ww' hd
      cases eb
      go_wp2_with (first
        | (go_at_call 65; (with_reducible refine (implPlaceOf_any _ _ _ _ _ _ hin'' rl').mono ?_); rintro e w' ⟨rfl, rfl⟩)
        | (at_builtin; refine wpList_append_int2 _ rfl _ _ rfl l2 h2 k _ _ _ rfl (o4.alloc _) (place (rx yss j) (k : Int)) _ 1 rfl (new_cell _ _ _ rfl) (by omega) (by simp; omega) (by simp; omega) ?_))
      intro A4 c4 w4 l4 h4 o5 on hs4 hat
      rw [← HW.out] at o5
      have b4 := (b3.alloc (by omega) (.cells #[.int .i64 (place (rx yss j) (k : Int))] 3)).trans (on.toBelow (B := w.heap.size + 1) z2 (by simp; omega))
      have o6 := (o3.alloc (.cells #[.int .i64 (place (rx yss j) (k : Int))] 3)).only on (by omega)
      have hs0' := World.size_alloc w3 (.cells #[.int .i64 (place (rx yss j) (k : Int))] 3)
      have sep4 : (h3 ≤ l4 ∨ h4 ≤ l3) ∧ (w.heap.size + 1 ≤ l4 ∧ l4 ≤ w4.heap.size ∧ h4 ≤ w4.heap.size ∧ w3.heap.size ≤ w4.heap.size) := by omega
      clear on hs0' o3 o4 b3 hat hck'' d0' d1' hin''
      go_wp2
      go_roundw
      case rel => exact ⟨k + 1, _, _, l3, h3, _, _, l4, h4, by omega, by go_num, rfl, rfl, o6, o5, sep4.1, ⟨by omega, by omega, by omega, by omega, by omega, by omega⟩, b4⟩
      case measure => simp [intOf]; omega
    · obtain rfl : k = zs.length := by omega
      have hb5 := hall.trans (hbr.mono (by omega))
      clear M0 M1 hbr
      go_wp2
      go_ret2
      exact ⟨_, _, _, _, rfl, ow1.at_, ow2.at_, hb5⟩
def placeSum (f : Nat → Int) (xss yss : List (List Int)) (zs : List Int) : Int := if matchOk xss yss zs then lsum (listF f zs.length) else -1
set_option maxHeartbeats 1000000 in
theorem implPlaceSums (A : Option Addr) (n c : Nat) (xss : List (List Int)) (B : Option Addr) (m d : Nat) (yss : List (List Int)) (C : Option Addr) (l e : Nat) (zs : List Int) (w : World) (h : RowsAt w A n xss) (hn : n ≤ 1048576) (hx : ∀ xs ∈ xss, xs.length ≤ 1048576)
    (g : RowsAt w B m yss) (hm : m ≤ 1048576) (hy : ∀ xs ∈ yss, xs.length ≤ 1048576) (q : IntsAt w C l zs) (hl : l ≤ 1048576) (hc : l ≤ e) :
    Calls Try.prog 28 #[.agg #[.slice A n c, .slice B m d], .slice C l e] w fun e w' => e = .returned ((.tuple #[.int .i64 (placeSum (menP xss zs) xss yss zs), .int .i64 (placeSum (womP yss zs) xss yss zs)])) ∧ Below w.heap.size w w' := by
  obtain rfl := h.len
  obtain rfl := g.len
  obtain rfl := q.len
  have HX := Lib.hid hx
  have HY := Lib.hid hy
  clear hx hy
  unfold placeSum
  have hall := pair_below w (.slice A xss.length c) (.slice B yss.length d) 32
  have hs0 := pair_size w (.slice A xss.length c) (.slice B yss.length d) 32
  have h0 := h.below hall
  have g0 := g.below hall
  have q0 := q.below hall
  have M0 := MktAt.new h g (c := c) (d := d) 32
  have hz0 : w.heap.size ≤ (w.alloc (.cells #[.slice A xss.length c, .slice B yss.length d] 32)).heap.size := by omega
  cases m1 : matchOk xss yss zs
  · go_enter Try.func28, Try.ntmps28
    go_wp2_with fail
    (with_reducible refine (implIsMatching _ _ _ _ _ _ _ _ _ _ _ _ _ h0 hn HX.out g0 hm HY.out q0 hl hc).mono ?_)
    rintro e w1 ⟨rfl, hb⟩
    rw [m1]
    have hb2 := hall.trans (hb.mono hz0)
    clear hb hall hs0 M0 hz0
    go_wp2
    go_ret2
    exact ⟨rfl, hb2⟩
  have F := match_facts m1
  have FF := Lib.hid F
  have f1 := F.hi
  have f2 := F.lo
  have fz1 := Nat.le_of_eq F.zl
  have fz2 := Nat.le_of_eq F.zl.symm
  clear F
  go_enter Try.func28, Try.ntmps28
  go_wp2_with fail
  (with_reducible refine (implIsMatching _ _ _ _ _ _ _ _ _ _ _ _ _ h0 hn HX.out g0 hm HY.out q0 hl hc).mono ?_)
  rintro e w1 ⟨rfl, hb⟩
  rw [m1]
  have hb2 := hall.trans (hb.mono hz0)
  have s2 := hb2.size
  have M1 := M0.below hb
  have q1 := q0.below hb
  clear hb hall hs0 M0 hz0
  obtain ⟨c0, c1, h1, g1⟩ := M1
  go_wp2_with fail
  (with_reducible refine (places_any _ _ _ _ _ _ _ _ _ _ _ _ _ h1 g1 q1 FF.out).mono ?_)
  rintro e w2 ⟨A1, e1, A2, e2, rfl, p1, p2, hb⟩
  have hb3 := hb2.trans (hb.mono s2)
  clear hb hb2 c0 c1
  have B1 := Lib.hid (show ∀ x ∈ listF (menP xss zs) zs.length, 0 ≤ x ∧ x ≤ 1000000000 from fun x hx => by obtain ⟨i, hi, rfl⟩ := listF_mem.1 hx; have := men_bd FF.out (show i < xss.length by omega); omega)
  have B2 := Lib.hid (show ∀ x ∈ listF (womP yss zs) zs.length, 0 ≤ x ∧ x ≤ 1000000000 from fun x hx => by obtain ⟨i, hi, rfl⟩ := listF_mem.1 hx; have := wom_bd FF.out (show i < xss.length by omega); omega)
  go_wp2_with fail
  (with_reducible refine (sumOf_any _ _ _ _ _ p1 (by omega) B1.out).mono ?_)
  rintro e w3 ⟨rfl, rfl⟩
  go_wp2_with fail
  (with_reducible refine (sumOf_any _ _ _ _ _ p2 (by omega) B2.out).mono ?_)
  rintro e w3 ⟨rfl, rfl⟩
  go_wp2
  go_ret2
  exact ⟨rfl, hb3⟩
set_option maxHeartbeats 1000000 in
theorem specPlaceSums (A : Option Addr) (n c : Nat) (xss : List (List Int)) (B : Option Addr) (m d : Nat) (yss : List (List Int)) (C : Option Addr) (l e : Nat) (zs : List Int) (w : World) (h : RowsAt w A n xss) (hn : n ≤ 1048576) (hx : ∀ xs ∈ xss, xs.length ≤ 1048576)
    (g : RowsAt w B m yss) (hm : m ≤ 1048576) (hy : ∀ xs ∈ yss, xs.length ≤ 1048576) (q : IntsAt w C l zs) (hl : l ≤ 1048576) (hc : l ≤ e) :
    Calls Try.prog 27 #[.agg #[.slice A n c, .slice B m d], .slice C l e] w fun e w' => e = .returned ((.tuple #[.int .i64 (placeSum (menP xss zs) xss yss zs), .int .i64 (placeSum (womP yss zs) xss yss zs)])) ∧ Below w.heap.size w w' := by
  obtain rfl := h.len
  obtain rfl := g.len
  obtain rfl := q.len
  have HX := Lib.hid hx
  have HY := Lib.hid hy
  clear hx hy
  unfold placeSum
  have hall := pair_below w (.slice A xss.length c) (.slice B yss.length d) 32
  have hs0 := pair_size w (.slice A xss.length c) (.slice B yss.length d) 32
  have h0 := h.below hall
  have g0 := g.below hall
  have q0 := q.below hall
  have M0 := MktAt.new h g (c := c) (d := d) 32
  have hz0 : w.heap.size ≤ (w.alloc (.cells #[.slice A xss.length c, .slice B yss.length d] 32)).heap.size := by omega
  cases m1 : matchOk xss yss zs
  · go_enter Try.func27, Try.ntmps27
    go_wp2_with fail
    (with_reducible refine (specIsMatching _ _ _ _ _ _ _ _ _ _ _ _ _ h0 hn HX.out g0 hm HY.out q0 hl hc).mono ?_)
    rintro e w1 ⟨rfl, hb⟩
    rw [m1]
    have hb2 := hall.trans (hb.mono hz0)
    clear hb hall hs0 M0 hz0
    go_wp2
    go_ret2
    exact ⟨rfl, hb2⟩
  have F := match_facts m1
  have FF := Lib.hid F
  have f1 := F.hi
  have f2 := F.lo
  have fz1 := Nat.le_of_eq F.zl
  have fz2 := Nat.le_of_eq F.zl.symm
  clear F
  go_enter Try.func27, Try.ntmps27
  go_wp2_with fail
  (with_reducible refine (specIsMatching _ _ _ _ _ _ _ _ _ _ _ _ _ h0 hn HX.out g0 hm HY.out q0 hl hc).mono ?_)
  rintro e w1 ⟨rfl, hb⟩
  rw [m1]
  have hb2 := hall.trans (hb.mono hz0)
  have s2 := hb2.size
  have M1 := M0.below hb
  have q1 := q0.below hb
  clear hb hall hs0 M0 hz0
  obtain ⟨c0, c1, h1, g1⟩ := M1
  go_wp2
  go_loop [6, 7, 8, 9, 16] (fun x y _ _ i => ∃ k : Nat, k ≤ zs.length ∧ i = .int .i64 k ∧ x = .int .i64 (lsum (listF (menP xss zs) k)) ∧ y = .int .i64 (lsum (listF (womP yss zs) k))) (fun _ _ _ _ i => zs.length - (intOf i).toNat)
  case atStart => exact ⟨0, Nat.zero_le _, rfl, rfl, rfl⟩
  case round =>
    obtain ⟨k, hk, rfl, rfl, rfl⟩ := hrel
    by_cases hlt : k < zs.length
    · obtain ⟨j, hj⟩ : ∃ j : Nat, ix zs k = (j : Int) := ⟨(ix zs k).toNat, by have := FF.out.z k (by omega); omega⟩
      have hjl : j < xss.length := by have := FF.out.z k (by omega); omega
      have wl := FF.out.wl
      obtain ⟨b, o, A', c', rfl, _, hck, hcc, hin⟩ := h1.at_ (show k < xss.length by omega)
      obtain ⟨b', o', B', d', rfl, _, hck', hcc', hin'⟩ := g1.at_ (show j < yss.length by omega)
      obtain ⟨bz, oz, rfl, _, hcz⟩ := q1.at_ hlt
      have kz := hcz k hlt
      have bm := men_bd FF.out (show k < xss.length by omega)
      have bw := wom_bd FF.out (show k < xss.length by omega)
      have em : menP xss zs k = place (rx xss k) (j : Int) := by unfold menP; rw [hj]
      have ew : womP yss zs k = place (rx yss j) (k : Int) := by unfold womP; rw [hj]; rfl
      have s1 := lsum_bd (listF (menP xss zs) k) 5 (fun x hx => by obtain ⟨i, hi, rfl⟩ := listF_mem.1 hx; have := men_bd FF.out (show i < xss.length by omega); omega)
      have s3 := lsum_bd (listF (womP yss zs) k) 5 (fun x hx => by obtain ⟨i, hi, rfl⟩ := listF_mem.1 hx; have := wom_bd FF.out (show i < xss.length by omega); omega)
      rw [listF_len] at s1 s3
      have HM := Lib.hid (lsum_listF (menP xss zs) k)
      have HW := Lib.hid (lsum_listF (womP yss zs) k)
      rw [em] at HM bm
      rw [ew] at HW bw
      rw [hj] at kz
      have rl : (rx xss k).length ≤ 1099511627776 := by have := rank_len (FF.out.mr k (by omega)); omega
      have rl' : (rx yss j).length ≤ 1099511627776 := by have := rank_len (FF.out.wr j hjl); omega
      have i1 : k < xss.length := by omega
      have i2 : j < yss.length := by omega
      clear hcz hj em ew wl
      go_wp2_with (go_at_call 52; (first | (with_reducible refine (specPlaceOf_any _ _ _ _ _ _ hin rl).mono ?_) | (with_reducible refine (specPlaceOf_any _ _ _ _ _ _ hin' rl').mono ?_)); rintro e w' ⟨rfl, rfl⟩)
      go_round
      case rel => exact ⟨k + 1, by omega, by go_num, by rw [HM.out], by rw [HW.out]⟩
      case measure => simp [intOf]; omega
    · obtain rfl : k = zs.length := by omega
      go_wp2
      go_ret2
      exact ⟨rfl, hb2⟩
end Go.Proofs.Ytgehbpeeljifnaa
