/- Stable matchings. -/
import Derived.Test.YtnoanomihifobaaAllRank
import Derived.Test.YtnoanomihifobaaMBlocks
namespace Go.Proofs.Ytnoanomihifobaa
set_option linter.unusedVariables false
open Go.RowKit

theorem rank_all {n : Nat} (h1 : 1 ≤ n) (h5 : n ≤ 5) : (allRankings (n : Int)).all (rankOk (n : Int)) = true := by
  obtain rfl | rfl | rfl | rfl | rfl : n = 1 ∨ n = 2 ∨ n = 3 ∨ n = 4 ∨ n = 5 := by omega
  all_goals decide +kernel
theorem all_match {xss yss : List (List Int)} (h : marketOk xss yss = true) : ∀ k, k < (allRankings (xss.length : Int)).length → MatchF xss yss (rx (allRankings (xss.length : Int)) k) := by
  intro k hk
  have F := market_facts h
  have := List.all_eq_true.1 (rank_all F.lo F.hi) _ (rx_mem hk)
  exact match_facts (by unfold matchOk; rw [h, this]; rfl)
/-- no two would rather have each other -/
def stabM (xss yss : List (List Int)) (zs : List Int) : Bool := (blocksM xss yss zs).length == 0
def stableMs (xss yss : List (List Int)) : List (List Int) := if marketOk xss yss then (allRankings (xss.length : Int)).filter (stabM xss yss) else []
theorem stableMs_no {xss yss : List (List Int)} (h : marketOk xss yss = false) : stableMs xss yss = [] := by unfold stableMs; rw [h]; rfl
theorem stableMs_yes {xss yss : List (List Int)} (h : marketOk xss yss = true) : stableMs xss yss = (allRankings (xss.length : Int)).filter (stabM xss yss) := by unfold stableMs; rw [h]; rfl
theorem stableMs_bd {xss yss : List (List Int)} : (stableMs xss yss).length ≤ 1048576 ∧ ∀ xs ∈ stableMs xss yss, xs.length ≤ 1048576 := by
  unfold stableMs
  split
  · refine ⟨?_, fun x hx => ?_⟩
    · have h1 := List.length_filter_le (stabM xss yss) (allRankings (xss.length : Int))
      have h2 := allRankings_len (m := (xss.length : Int))
      omega
    · have := allRankings_row x (List.mem_filter.1 hx).1
      omega
  · simp
def uniqueM (xss yss : List (List Int)) : Bool := (stableMs xss yss).length == 1
set_option maxHeartbeats 2000000 in
theorem implStableMatchings (A : Option Addr) (n c : Nat) (xss : List (List Int)) (B : Option Addr) (m d : Nat) (yss : List (List Int)) (w : World) (h : RowsAt w A n xss) (hn : n ≤ 1048576) (hx : ∀ xs ∈ xss, xs.length ≤ 1048576)
    (g : RowsAt w B m yss) (hm : m ≤ 1048576) (hy : ∀ xs ∈ yss, xs.length ≤ 1048576) :
    Calls Try.prog 12 #[.agg #[.slice A n c, .slice B m d]] w fun e w' => ∃ A' c', e = .returned (.slice A' (stableMs xss yss).length c') ∧ OwnR w' w.heap.size w'.heap.size (.slice A' (stableMs xss yss).length c') (stableMs xss yss) ∧ (stableMs xss yss).length ≤ 1048576 ∧ (∀ xs ∈ stableMs xss yss, xs.length ≤ 1048576) ∧ Below w.heap.size w w' := by
  obtain rfl := h.len
  obtain rfl := g.len
  have HX := Lib.hid hx
  have HY := Lib.hid hy
  clear hx hy
  have hK := MktAt.new (c := c) (d := d) h g 27
  have hall := pair_below w (.slice A xss.length c) (.slice B yss.length d) 27
  have hs := World.size_alloc w (.cells #[.slice A xss.length c, .slice B yss.length d] 27)
  have x0 := hK.c0
  have x1 := hK.c1
  cases hok : marketOk xss yss
  · rw [stableMs_no hok]
    go_enter Try.func12, Try.ntmps12
    go_wp2_with fail
    generalize w.alloc (.cells #[.slice A xss.length c, .slice B yss.length d] 27) = w0 at *
    (with_reducible refine (implMarketOk _ _ _ _ _ _ _ _ _ hK.men hn HX.out hK.women hm HY.out).mono ?_)
    rintro e w1 ⟨rfl, b1⟩
    rw [hok]
    have b2 := hall.trans (b1.mono hall.size)
    clear b1 hok x0 x1
    go_wp2
    go_ret
    exact ⟨none, 0, rfl, OwnR.nil _ _ _, by simp, by simp, b2⟩
  obtain ⟨hsl, hsr⟩ := stableMs_bd (xss := xss) (yss := yss)
  have HSR := Lib.hid hsr
  have HSY := Lib.hid (stableMs_yes hok)
  have F := market_facts hok
  have l1 := F.lo
  have l5 := F.hi
  have hal := allRankings_len (m := (xss.length : Int))
  have HMF := Lib.hid (all_match hok)
  clear hsr F
  generalize stableMs xss yss = SP at *
  go_enter Try.func12, Try.ntmps12
  go_wp2_with fail
  generalize w.alloc (.cells #[.slice A xss.length c, .slice B yss.length d] 27) = w0 at *
  (with_reducible refine (implMarketOk _ _ _ _ _ _ _ _ _ hK.men hn HX.out hK.women hm HY.out).mono ?_)
  rintro e w1 ⟨rfl, b1⟩
  rw [hok]
  have hs1 : w.heap.size ≤ w0.heap.size := by omega
  clear hs
  have K0 := hK.below b1
  have x0 := K0.c0
  have x1 := K0.c1
  clear hok
  have r0 : w1.ownsRow w0.heap.size 38 1 (.slice none 0 0) 0 [] := World.ownsRow_nil _ _ _ _
  have q0 : ∀ j, (Value.slice none 0 0).ownBlock = some j → w0.heap.size ≤ j ∧ j < w1.heap.size := fun j e => by simp [Value.ownBlock] at e
  have z0 := b1.size
  go_wp2_with fail
  (with_reducible refine (implAllRankings (xss.length : Int) _).mono ?_)
  rintro e w2 ⟨Aa, ca, rfl, oa, b2⟩
  have z2 := b2.size
  generalize allRankings (xss.length : Int) = ys at *
  obtain ⟨us, ha1, ha2, va⟩ := ownR_iff.1 oa
  have hul : us.length = ys.length := va.1
  have hca : ∀ j, j < ys.length → ∃ b o, Aa = some ⟨b, o, none⟩ ∧ w2.cell? ⟨b, o + j, none⟩ = us[j]? := fun j hj => by
    obtain ⟨g, rfl, _⟩ := oa.head (by omega)
    exact ⟨g, 0, rfl, by rw [Nat.zero_add]; exact World.ownsRow.cellAt ha1 j (by omega)⟩
  have r2 := ownsRow_below r0 b2
  have b3 := b1.trans (b2.mono z0)
  have HC := Lib.hid hca
  have P0 := pick_zero (p := stabM xss yss) (us := us) (ys := ys)
  have q2 : ∀ j, (Value.slice none 0 0).ownBlock = some j → j < w1.heap.size ∨ w2.heap.size ≤ j := fun j e => .inl (q0 j e).2
  have HALL := Lib.hid (pick_all (p := stabM xss yss) hul)
  clear ha1 ha2 hca q0 r0
  go_wp2
  go_loopw [3, 5, 14] (fun v _ i wr => ∃ (k : Nat) (A' : Option Addr) (c' : Nat), k ≤ ys.length ∧ i = .int .i64 k ∧ v = .slice A' (pickY (stabM xss yss) us ys k).length c' ∧ wr.ownsRow w0.heap.size 38 1 (.slice A' (pickY (stabM xss yss) us ys k).length c') (pickY (stabM xss yss) us ys k).length (pickU (stabM xss yss) us ys k) ∧
    (∀ j, (Value.slice A' (pickY (stabM xss yss) us ys k).length c').ownBlock = some j → j < w1.heap.size ∨ w2.heap.size ≤ j) ∧ OwnR wr w1.heap.size w2.heap.size (.slice Aa ys.length ca) ys ∧ RowsV wr w1.heap.size w2.heap.size us ys ∧
    (∀ j, j < ys.length → ∃ b o, Aa = some ⟨b, o, none⟩ ∧ wr.cell? ⟨b, o + j, none⟩ = us[j]?) ∧ Below w0.heap.size w0 wr ∧ w2.heap.size ≤ wr.heap.size) (fun _ _ i _ => ys.length - (intOf i).toNat)
  case atStart => exact ⟨0, _, 0, Nat.zero_le _, rfl, by rw [P0.2]; rfl, by rw [P0.1, P0.2]; exact r2, by rw [P0.2]; exact q2, oa, va, HC.out, b3, Nat.le_refl _⟩
  case round =>
    obtain ⟨k, A1, c1, hk, rfl, rfl, hown, hq, hoa, hva, hcs, hb, zz⟩ := hrel
    have zr := hb.size
    have hpl := pickY_len (p := stabM xss yss) (us := us) (ys := ys) (k := k)
    clear P0 q2 b3 r2 oa va HC x0 x1
    have HCR := Lib.hid hcs
    have HQ := Lib.hid hq
    clear hcs hq
    by_cases hlt : k < ys.length
    · obtain ⟨g, rfl, hg1, hg2, hg3⟩ := hoa.head (by omega)
      obtain ⟨b, o, ea, hcu⟩ := HCR.out k hlt
      cases ea
      obtain ⟨_, Ak, ck, hck, hok2⟩ := hoa.row k hlt
      rw [Nat.zero_add] at hcu
      have hu : us[k]? = some (.slice Ak (rx ys k).length ck) := by rw [← hcu]; exact hck
      have HPY := Lib.hid (fun h => pick_yes (p := stabM xss yss) hlt hu h)
      have HPN := Lib.hid (fun h => pick_no (p := stabM xss yss) hlt hu h)
      have rk := hok2.at_
      have K3 := hK.below hb
      have x0 := K3.c0
      have x1 := K3.c1
      clear hcu hu
      go_wp2_with fail
      (with_reducible refine (blocks_any _ _ _ _ _ _ _ _ _ _ _ _ _ K3.men K3.women rk (HMF.out k hlt)).mono ?_)
      rintro e w5 ⟨A5, c5, rfl, _, b5⟩
      have z5 := b5.size
      have hown5 := ownsRow_below hown b5
      have hoa5 := hoa.belowW b5
      have hva5 := hva.belowW b5
      have hb5 := hb.trans (b5.mono zr)
      have HC5 : Hid (∀ j, j < ys.length → ∃ b o, (some ⟨g, 0, none⟩ : Option Addr) = some ⟨b, o, none⟩ ∧ w5.cell? ⟨b, o + j, none⟩ = us[j]?) := fun j hj => by
        obtain ⟨b, o, e, hc⟩ := HCR.out j hj
        refine ⟨b, o, e, ?_⟩
        cases e
        rw [← hc]
        exact b5.cell (p := ⟨g, 0 + j, none⟩) hg3
      clear b5 HCR hown hoa hva hb hck K3 x0 x1
      by_cases ht : (blocksM xss yss (rx ys k)).length = 0
      · have hst : stabM xss yss (rx ys k) = true := by unfold stabM; rw [ht]; rfl
        obtain ⟨p1, p2⟩ := HPY.out hst
        have b6 := (Below.refl w5.heap.size w5).alloc (Nat.le_refl _) (.cells #[.slice Ak (rx ys k).length ck] 38)
        have z6 := World.size_alloc w5 (.cells #[.slice Ak (rx ys k).length ck] 38)
        have hown6 := ownsRow_below hown5 b6
        have hoa6 := hoa5.belowW b6
        have hva6 := hva5.belowW b6
        have hb6 := hb5.trans (b6.mono (by omega))
        have hV := hva6.pick (stabM xss yss) (k + 1)
        rw [p1] at hV
        have hc6 := new_cell w5 (.slice Ak (rx ys k).length ck) 38 rfl
        have HC6 : Hid (∀ j, j < 1 → ∃ b o, (some ⟨w5.heap.size, 0, none⟩ : Option Addr) = some ⟨b, o, none⟩ ∧ (w5.alloc (.cells #[.slice Ak (rx ys k).length ck] 38)).cell? ⟨b, o + j, none⟩ = [Value.slice Ak (rx ys k).length ck][j]?) := by
          intro j hj
          obtain rfl : j = 0 := by omega
          exact ⟨w5.heap.size, 0, rfl, hc6⟩
        have HC7 : Hid (∀ j, j < ys.length → ∃ b o, (some ⟨g, 0, none⟩ : Option Addr) = some ⟨b, o, none⟩ ∧ (w5.alloc (.cells #[.slice Ak (rx ys k).length ck] 38)).cell? ⟨b, o + j, none⟩ = us[j]?) := fun j hj => by
          obtain ⟨b, o, e, hc⟩ := HC5.out j hj
          refine ⟨b, o, e, ?_⟩
          cases e
          rw [← hc]
          exact b6.cell (p := ⟨g, 0 + j, none⟩) (by simp; omega)
        have el : (pickY (stabM xss yss) us ys k).length + 1 = (pickY (stabM xss yss) us ys (k + 1)).length := by rw [p2]; simp
        have HP1 := Lib.hid p1
        have HEL := Lib.hid el
        clear p1 p2 hst HPY HPN hc6 hown5 hoa5 hva5 hb5 HC5 b6 el
        go_wp2_with (at_builtin; refine wpList_append_rowsV _ rfl _ _ rfl w0.heap.size _ c1 A1 _ rfl hown6 (some ⟨w5.heap.size, 0, none⟩) 1 1 [Value.slice Ak (rx ys k).length ck] _ _ _ rfl HC6.out hV rfl (by omega) (by omega) ?_)
        intro A8 c8 w8 o8 v8 g8 hat8
        have z8 := g8.size
        have hoa8 := hoa6.grownBy g8 (fun j e => by have := HQ.out j e; omega)
        have hva8 := hva6.grownBy g8 (fun j e => by have := HQ.out j e; omega)
        have HC8 : Hid (∀ j, j < ys.length → ∃ b o, (some ⟨g, 0, none⟩ : Option Addr) = some ⟨b, o, none⟩ ∧ w8.cell? ⟨b, o + j, none⟩ = us[j]?) := fun j hj => by
          obtain ⟨b, o, e, hc⟩ := HC7.out j hj
          refine ⟨b, o, e, ?_⟩
          cases e
          rw [← hc]
          exact World.cell?_of_block (g8.block g (by omega) (fun e => by have := HQ.out g e.symm; omega))
        have hb8 := below_of_below hb6 g8 (fun j e => (World.ownsRow.lt hown6 j e).1)
        have HQ8 : Hid (∀ j, (Value.slice A8 (pickY (stabM xss yss) us ys (k + 1)).length c8).ownBlock = some j → j < w1.heap.size ∨ w2.heap.size ≤ j) := by
          rw [← HEL.out]
          intro j e
          rcases hat8 with h | h
          · rw [h] at e; exact HQ.out j e
          · rw [h] at e; have e2 := Option.some.inj e; right; omega
        rw [← HP1.out, HEL.out] at o8
        clear hat8 g8 hoa6 hva6 v8 hb6 hown6 HC7 HC6
        go_wp2
        go_roundw
        case rel => exact ⟨k + 1, _, _, by omega, by go_num, by rw [← HEL.out], o8, HQ8.out, hoa8, hva8, HC8.out, hb8, by omega⟩
        case measure => simp [intOf]; omega
      · have hst : stabM xss yss (rx ys k) = false := by unfold stabM; rw [beq_eq_false_iff_ne]; exact ht
        obtain ⟨p1, p2⟩ := HPN.out hst
        rw [← p1, ← p2] at hown5
        rw [← p2] at HQ ⊢
        have ht2 : (((blocksM xss yss (rx ys k)).length : Int) == 0) = false := by rw [beq_eq_false_iff_ne]; omega
        clear p1 p2 hst HPY HPN
        go_wp2
        go_roundw
        case rel => exact ⟨k + 1, _, _, by omega, by go_num, rfl, hown5, HQ.out, hoa5, hva5, HC5.out, hb5, by omega⟩
        case measure => simp [intOf]; omega
    · obtain rfl : k = ys.length := by omega
      have e : pickY (stabM xss yss) us ys ys.length = SP := by rw [HALL.out, HSY.out]
      have hV := hva.pick (stabM xss yss) ys.length
      rw [e] at hown hV
      have HEE := Lib.hid e
      clear e
      go_wp2
      go_ret
      exact ⟨_, _, by rw [← HEE.out]; rfl, (ownR_iff.2 ⟨_, hown, fun j e => (World.ownsRow.lt hown j e).2, hV.mono (by omega) zz⟩).mono (by omega) (Nat.le_refl _), hsl, HSR.out, hall.trans (hb.mono (by omega))⟩
set_option maxHeartbeats 2000000 in
theorem specStableMatchings (A : Option Addr) (n c : Nat) (xss : List (List Int)) (B : Option Addr) (m d : Nat) (yss : List (List Int)) (w : World) (h : RowsAt w A n xss) (hn : n ≤ 1048576) (hx : ∀ xs ∈ xss, xs.length ≤ 1048576)
    (g : RowsAt w B m yss) (hm : m ≤ 1048576) (hy : ∀ xs ∈ yss, xs.length ≤ 1048576) :
    Calls Try.prog 11 #[.agg #[.slice A n c, .slice B m d]] w fun e w' => ∃ A' c', e = .returned (.slice A' (stableMs xss yss).length c') ∧ OwnR w' w.heap.size w'.heap.size (.slice A' (stableMs xss yss).length c') (stableMs xss yss) ∧ (stableMs xss yss).length ≤ 1048576 ∧ (∀ xs ∈ stableMs xss yss, xs.length ≤ 1048576) ∧ Below w.heap.size w w' := by
  obtain rfl := h.len
  obtain rfl := g.len
  have HX := Lib.hid hx
  have HY := Lib.hid hy
  clear hx hy
  have hK := MktAt.new (c := c) (d := d) h g 27
  have hall := pair_below w (.slice A xss.length c) (.slice B yss.length d) 27
  have hs := World.size_alloc w (.cells #[.slice A xss.length c, .slice B yss.length d] 27)
  have x0 := hK.c0
  have x1 := hK.c1
  cases hok : marketOk xss yss
  · rw [stableMs_no hok]
    go_enter Try.func11, Try.ntmps11
    go_wp2_with fail
    generalize w.alloc (.cells #[.slice A xss.length c, .slice B yss.length d] 27) = w0 at *
    (with_reducible refine (specMarketOk _ _ _ _ _ _ _ _ _ hK.men hn HX.out hK.women hm HY.out).mono ?_)
    rintro e w1 ⟨rfl, b1⟩
    rw [hok]
    have b2 := hall.trans (b1.mono hall.size)
    clear b1 hok x0 x1
    go_wp2
    go_ret
    exact ⟨none, 0, rfl, OwnR.nil _ _ _, by simp, by simp, b2⟩
  obtain ⟨hsl, hsr⟩ := stableMs_bd (xss := xss) (yss := yss)
  have HSR := Lib.hid hsr
  have HSY := Lib.hid (stableMs_yes hok)
  have F := market_facts hok
  have l1 := F.lo
  have l5 := F.hi
  have hal := allRankings_len (m := (xss.length : Int))
  have HMF := Lib.hid (all_match hok)
  clear hsr F
  generalize stableMs xss yss = SP at *
  go_enter Try.func11, Try.ntmps11
  go_wp2_with fail
  generalize w.alloc (.cells #[.slice A xss.length c, .slice B yss.length d] 27) = w0 at *
  (with_reducible refine (specMarketOk _ _ _ _ _ _ _ _ _ hK.men hn HX.out hK.women hm HY.out).mono ?_)
  rintro e w1 ⟨rfl, b1⟩
  rw [hok]
  have hs1 : w.heap.size ≤ w0.heap.size := by omega
  clear hs
  have K0 := hK.below b1
  have x0 := K0.c0
  have x1 := K0.c1
  clear hok
  have bq := (Below.refl w1.heap.size w1).alloc (Nat.le_refl _) (.cells #[] 38)
  have zq := b1.size
  have e0 := World.size_alloc w1 (.cells #[] 38)
  have r0 : (w1.alloc (.cells #[] 38)).ownsRow w0.heap.size 38 1 (.slice (some ⟨w1.heap.size, 0, none⟩) 0 0) 0 [] := World.ownsRow_lit (e := 38) (size := 1) (base := w0.heap.size) w1 #[] 0 zq (by unfold maxLen; omega) rfl
  have q0 : ∀ j, (Value.slice (some ⟨w1.heap.size, 0, none⟩) 0 0).ownBlock = some j → w0.heap.size ≤ j ∧ j < (w1.alloc (.cells #[] 38)).heap.size := fun j e => by simp [Value.ownBlock] at e; rw [e0]; omega
  have b1 := b1.trans (bq.mono zq)
  have z0 := b1.size
  have K1 := hK.below b1
  have x0 := K1.c0
  have x1 := K1.c1
  clear bq zq e0
  go_wp2_with fail
  (with_reducible refine (specAllRankings (xss.length : Int) _).mono ?_)
  rintro e w2 ⟨Aa, ca, rfl, oa, b2⟩
  have z2 := b2.size
  generalize allRankings (xss.length : Int) = ys at *
  obtain ⟨us, ha1, ha2, va⟩ := ownR_iff.1 oa
  have hul : us.length = ys.length := va.1
  have hca : ∀ j, j < ys.length → ∃ b o, Aa = some ⟨b, o, none⟩ ∧ w2.cell? ⟨b, o + j, none⟩ = us[j]? := fun j hj => by
    obtain ⟨g, rfl, _⟩ := oa.head (by omega)
    exact ⟨g, 0, rfl, by rw [Nat.zero_add]; exact World.ownsRow.cellAt ha1 j (by omega)⟩
  have r2 := ownsRow_below r0 b2
  have b3 := b1.trans (b2.mono z0)
  have HC := Lib.hid hca
  have P0 := pick_zero (p := stabM xss yss) (us := us) (ys := ys)
  have q2 : ∀ j, (Value.slice (some ⟨w1.heap.size, 0, none⟩) 0 0).ownBlock = some j → j < (w1.alloc (.cells #[] 38)).heap.size ∨ w2.heap.size ≤ j := fun j e => .inl (q0 j e).2
  have HALL := Lib.hid (pick_all (p := stabM xss yss) hul)
  clear ha1 ha2 hca q0 r0
  go_wp2
  go_loopw [3, 5, 15] (fun v _ i wr => ∃ (k : Nat) (A' : Option Addr) (c' : Nat), k ≤ ys.length ∧ i = .int .i64 k ∧ v = .slice A' (pickY (stabM xss yss) us ys k).length c' ∧ wr.ownsRow w0.heap.size 38 1 (.slice A' (pickY (stabM xss yss) us ys k).length c') (pickY (stabM xss yss) us ys k).length (pickU (stabM xss yss) us ys k) ∧
    (∀ j, (Value.slice A' (pickY (stabM xss yss) us ys k).length c').ownBlock = some j → j < (w1.alloc (.cells #[] 38)).heap.size ∨ w2.heap.size ≤ j) ∧ OwnR wr (w1.alloc (.cells #[] 38)).heap.size w2.heap.size (.slice Aa ys.length ca) ys ∧ RowsV wr (w1.alloc (.cells #[] 38)).heap.size w2.heap.size us ys ∧
    (∀ j, j < ys.length → ∃ b o, Aa = some ⟨b, o, none⟩ ∧ wr.cell? ⟨b, o + j, none⟩ = us[j]?) ∧ Below w0.heap.size w0 wr ∧ w2.heap.size ≤ wr.heap.size) (fun _ _ i _ => ys.length - (intOf i).toNat)
  case atStart => exact ⟨0, _, 0, Nat.zero_le _, rfl, by rw [P0.2]; rfl, by rw [P0.1, P0.2]; exact r2, by rw [P0.2]; exact q2, oa, va, HC.out, b3, Nat.le_refl _⟩
  case round =>
    obtain ⟨k, A1, c1, hk, rfl, rfl, hown, hq, hoa, hva, hcs, hb, zz⟩ := hrel
    have zr := hb.size
    have hpl := pickY_len (p := stabM xss yss) (us := us) (ys := ys) (k := k)
    clear P0 q2 b3 r2 oa va HC x0 x1
    have HCR := Lib.hid hcs
    have HQ := Lib.hid hq
    clear hcs hq
    by_cases hlt : k < ys.length
    · obtain ⟨g, rfl, hg1, hg2, hg3⟩ := hoa.head (by omega)
      obtain ⟨b, o, ea, hcu⟩ := HCR.out k hlt
      cases ea
      obtain ⟨_, Ak, ck, hck, hok2⟩ := hoa.row k hlt
      rw [Nat.zero_add] at hcu
      have hu : us[k]? = some (.slice Ak (rx ys k).length ck) := by rw [← hcu]; exact hck
      have HPY := Lib.hid (fun h => pick_yes (p := stabM xss yss) hlt hu h)
      have HPN := Lib.hid (fun h => pick_no (p := stabM xss yss) hlt hu h)
      have rk := hok2.at_
      have K3 := hK.below hb
      have x0 := K3.c0
      have x1 := K3.c1
      clear hcu hu
      go_wp2_with fail
      (with_reducible refine (l17Blocks_any _ _ _ _ _ _ _ _ _ _ _ _ _ K3.men K3.women rk (HMF.out k hlt)).mono ?_)
      rintro e w5 ⟨A5, c5, rfl, _, b5⟩
      have z5 := b5.size
      have hown5 := ownsRow_below hown b5
      have hoa5 := hoa.belowW b5
      have hva5 := hva.belowW b5
      have hb5 := hb.trans (b5.mono zr)
      have HC5 : Hid (∀ j, j < ys.length → ∃ b o, (some ⟨g, 0, none⟩ : Option Addr) = some ⟨b, o, none⟩ ∧ w5.cell? ⟨b, o + j, none⟩ = us[j]?) := fun j hj => by
        obtain ⟨b, o, e, hc⟩ := HCR.out j hj
        refine ⟨b, o, e, ?_⟩
        cases e
        rw [← hc]
        exact b5.cell (p := ⟨g, 0 + j, none⟩) hg3
      clear b5 HCR hown hoa hva hb hck K3 x0 x1
      by_cases ht : (blocksS xss yss (rx ys k)).length = 0
      · have hst : stabM xss yss (rx ys k) = true := by unfold stabM; rw [← blocks_same (HMF.out k hlt), ht]; rfl
        obtain ⟨p1, p2⟩ := HPY.out hst
        have b6 := (Below.refl w5.heap.size w5).alloc (Nat.le_refl _) (.cells #[.slice Ak (rx ys k).length ck] 38)
        have z6 := World.size_alloc w5 (.cells #[.slice Ak (rx ys k).length ck] 38)
        have hown6 := ownsRow_below hown5 b6
        have hoa6 := hoa5.belowW b6
        have hva6 := hva5.belowW b6
        have hb6 := hb5.trans (b6.mono (by omega))
        have hV := hva6.pick (stabM xss yss) (k + 1)
        rw [p1] at hV
        have hc6 := new_cell w5 (.slice Ak (rx ys k).length ck) 38 rfl
        have HC6 : Hid (∀ j, j < 1 → ∃ b o, (some ⟨w5.heap.size, 0, none⟩ : Option Addr) = some ⟨b, o, none⟩ ∧ (w5.alloc (.cells #[.slice Ak (rx ys k).length ck] 38)).cell? ⟨b, o + j, none⟩ = [Value.slice Ak (rx ys k).length ck][j]?) := by
          intro j hj
          obtain rfl : j = 0 := by omega
          exact ⟨w5.heap.size, 0, rfl, hc6⟩
        have HC7 : Hid (∀ j, j < ys.length → ∃ b o, (some ⟨g, 0, none⟩ : Option Addr) = some ⟨b, o, none⟩ ∧ (w5.alloc (.cells #[.slice Ak (rx ys k).length ck] 38)).cell? ⟨b, o + j, none⟩ = us[j]?) := fun j hj => by
          obtain ⟨b, o, e, hc⟩ := HC5.out j hj
          refine ⟨b, o, e, ?_⟩
          cases e
          rw [← hc]
          exact b6.cell (p := ⟨g, 0 + j, none⟩) (by simp; omega)
        have el : (pickY (stabM xss yss) us ys k).length + 1 = (pickY (stabM xss yss) us ys (k + 1)).length := by rw [p2]; simp
        have HP1 := Lib.hid p1
        have HEL := Lib.hid el
        clear p1 p2 hst HPY HPN hc6 hown5 hoa5 hva5 hb5 HC5 b6 el
        go_wp2_with (at_builtin; refine wpList_append_rowsV _ rfl _ _ rfl w0.heap.size _ c1 A1 _ rfl hown6 (some ⟨w5.heap.size, 0, none⟩) 1 1 [Value.slice Ak (rx ys k).length ck] _ _ _ rfl HC6.out hV rfl (by omega) (by omega) ?_)
        intro A8 c8 w8 o8 v8 g8 hat8
        have z8 := g8.size
        have hoa8 := hoa6.grownBy g8 (fun j e => by have := HQ.out j e; omega)
        have hva8 := hva6.grownBy g8 (fun j e => by have := HQ.out j e; omega)
        have HC8 : Hid (∀ j, j < ys.length → ∃ b o, (some ⟨g, 0, none⟩ : Option Addr) = some ⟨b, o, none⟩ ∧ w8.cell? ⟨b, o + j, none⟩ = us[j]?) := fun j hj => by
          obtain ⟨b, o, e, hc⟩ := HC7.out j hj
          refine ⟨b, o, e, ?_⟩
          cases e
          rw [← hc]
          exact World.cell?_of_block (g8.block g (by omega) (fun e => by have := HQ.out g e.symm; omega))
        have hb8 := below_of_below hb6 g8 (fun j e => (World.ownsRow.lt hown6 j e).1)
        have HQ8 : Hid (∀ j, (Value.slice A8 (pickY (stabM xss yss) us ys (k + 1)).length c8).ownBlock = some j → j < (w1.alloc (.cells #[] 38)).heap.size ∨ w2.heap.size ≤ j) := by
          rw [← HEL.out]
          intro j e
          rcases hat8 with h | h
          · rw [h] at e; exact HQ.out j e
          · rw [h] at e; have e2 := Option.some.inj e; right; omega
        rw [← HP1.out, HEL.out] at o8
        clear hat8 g8 hoa6 hva6 v8 hb6 hown6 HC7 HC6
        go_wp2
        go_roundw
        case rel => exact ⟨k + 1, _, _, by omega, by go_num, by rw [← HEL.out], o8, HQ8.out, hoa8, hva8, HC8.out, hb8, by omega⟩
        case measure => simp [intOf]; omega
      · have hst : stabM xss yss (rx ys k) = false := by unfold stabM; rw [← blocks_same (HMF.out k hlt), beq_eq_false_iff_ne]; exact ht
        obtain ⟨p1, p2⟩ := HPN.out hst
        rw [← p1, ← p2] at hown5
        rw [← p2] at HQ ⊢
        have ht2 : (((blocksS xss yss (rx ys k)).length : Int) == 0) = false := by rw [beq_eq_false_iff_ne]; omega
        clear p1 p2 hst HPY HPN
        go_wp2
        go_roundw
        case rel => exact ⟨k + 1, _, _, by omega, by go_num, rfl, hown5, HQ.out, hoa5, hva5, HC5.out, hb5, by omega⟩
        case measure => simp [intOf]; omega
    · obtain rfl : k = ys.length := by omega
      have e : pickY (stabM xss yss) us ys ys.length = SP := by rw [HALL.out, HSY.out]
      have hV := hva.pick (stabM xss yss) ys.length
      rw [e] at hown hV
      have HEE := Lib.hid e
      clear e
      go_wp2
      go_ret
      exact ⟨_, _, by rw [← HEE.out]; rfl, (ownR_iff.2 ⟨_, hown, fun j e => (World.ownsRow.lt hown j e).2, hV.mono (by omega) zz⟩).mono (by omega) (Nat.le_refl _), hsl, HSR.out, hall.trans (hb.mono (by omega))⟩
set_option maxHeartbeats 800000 in
theorem implIsUniqueStable (A : Option Addr) (n c : Nat) (xss : List (List Int)) (B : Option Addr) (m d : Nat) (yss : List (List Int)) (w : World) (h : RowsAt w A n xss) (hn : n ≤ 1048576) (hx : ∀ xs ∈ xss, xs.length ≤ 1048576)
    (g : RowsAt w B m yss) (hm : m ≤ 1048576) (hy : ∀ xs ∈ yss, xs.length ≤ 1048576) :
    Calls Try.prog 9 #[.agg #[.slice A n c, .slice B m d]] w fun e w' => e = .returned (.bool (uniqueM xss yss)) ∧ Below w.heap.size w w' := by
  have HX := Lib.hid hx
  have HY := Lib.hid hy
  clear hx hy
  have hK := MktAt.new (c := c) (d := d) h g 27
  have hall := pair_below w (.slice A n c) (.slice B m d) 27
  have x0 := hK.c0
  have x1 := hK.c1
  go_enter Try.func9, Try.ntmps9
  go_wp2_with fail
  generalize w.alloc (.cells #[.slice A n c, .slice B m d] 27) = w0 at *
  (with_reducible refine (implStableMatchings _ _ _ _ _ _ _ _ _ hK.men hn HX.out hK.women hm HY.out).mono ?_)
  rintro e w1 ⟨A1, c1, rfl, _, _, _, b1⟩
  have b2 := hall.trans (b1.mono hall.size)
  clear b1
  go_wp2
  go_ret
  exact ⟨ret_b (by unfold uniqueM; rw [Bool.eq_iff_iff]; simp; omega), b2⟩
set_option maxHeartbeats 800000 in
theorem specIsUniqueStable (A : Option Addr) (n c : Nat) (xss : List (List Int)) (B : Option Addr) (m d : Nat) (yss : List (List Int)) (w : World) (h : RowsAt w A n xss) (hn : n ≤ 1048576) (hx : ∀ xs ∈ xss, xs.length ≤ 1048576)
    (g : RowsAt w B m yss) (hm : m ≤ 1048576) (hy : ∀ xs ∈ yss, xs.length ≤ 1048576) :
    Calls Try.prog 7 #[.agg #[.slice A n c, .slice B m d]] w fun e w' => e = .returned (.bool (uniqueM xss yss)) ∧ Below w.heap.size w w' := by
  have HX := Lib.hid hx
  have HY := Lib.hid hy
  clear hx hy
  have hK := MktAt.new (c := c) (d := d) h g 27
  have hall := pair_below w (.slice A n c) (.slice B m d) 27
  have x0 := hK.c0
  have x1 := hK.c1
  go_enter Try.func7, Try.ntmps7
  go_wp2_with fail
  generalize w.alloc (.cells #[.slice A n c, .slice B m d] 27) = w0 at *
  (with_reducible refine (specStableMatchings _ _ _ _ _ _ _ _ _ hK.men hn HX.out hK.women hm HY.out).mono ?_)
  rintro e w1 ⟨A1, c1, rfl, _, _, _, b1⟩
  have b2 := hall.trans (b1.mono hall.size)
  clear b1
  go_wp2
  go_ret
  exact ⟨ret_b (by unfold uniqueM; rw [Bool.eq_iff_iff]; simp; omega), b2⟩
end Go.Proofs.Ytnoanomihifobaa
