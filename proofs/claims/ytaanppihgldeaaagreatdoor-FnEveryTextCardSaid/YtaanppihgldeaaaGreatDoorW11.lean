/- Runoff and Bucklin, the program's side. Bucklin, the program's side. -/
import Derived.Test.YtaanppihgldeaaaGreatDoorW09
import Derived.Test.YtaanppihgldeaaaGreatDoorW10
namespace Go.Proofs.YtaanppihgldeaaaGreatDoor
set_option linter.unusedSimpArgs false
set_option linter.unusedVariables false
set_option linter.unusedVariables false
open Go.RowKit

theorem inB_15 {m : Int} (h1 : 1 ≤ m) (h5 : m ≤ 5) : inB m 1 5 = true := inB_iff.2 ⟨h1, h5⟩
theorem wts_ok {m : Int} {f : Int → Int} (h1 : 1 ≤ m) (h5 : m ≤ 5) (hb : ∀ a : Int, 0 ≤ a → a < m → 0 ≤ f a ∧ f a ≤ 100) (hd : ∀ a : Int, 0 ≤ a → f (a + 1) ≤ f a) : weightsOk m (wtsOf m f) = true := by
  unfold weightsOk wtsOf
  rw [inB_15 h1 h5, if_pos rfl]
  obtain ⟨M, rfl⟩ : ∃ M : Nat, m = (M : Int) := ⟨m.toNat, by omega⟩
  rw [Int.toNat_natCast]
  have hl := mapTo_len f M
  rw [Bool.and_eq_true, Bool.and_eq_true, Bool.and_eq_true]
  refine ⟨⟨⟨rfl, decide_eq_true (by rw [hl])⟩, ?_⟩, descB_true fun j hj => ?_⟩
  · rw [List.all_eq_true]
    intro x hx
    obtain ⟨j, hj, rfl⟩ := List.getElem_of_mem hx
    rw [← ix_lt hj, mapTo_ix (by omega)]
    exact inB_iff.2 (hb j (by omega) (by omega))
  · rw [hl] at hj
    rw [mapTo_ix hj, mapTo_ix (by omega)]
    have := hd j (by omega)
    rwa [Int.natCast_add]
theorem plur_ok {m : Int} (h1 : 1 ≤ m) (h5 : m ≤ 5) : weightsOk m (plurW m) = true := wts_ok h1 h5 (fun a _ _ => by omega) fun a _ => by omega
theorem bord_ok {m : Int} (h1 : 1 ≤ m) (h5 : m ≤ 5) : weightsOk m (bordW m) = true := wts_ok h1 h5 (fun a _ _ => by omega) fun a _ => by omega
theorem veto_ok {m : Int} (h1 : 1 ≤ m) (h5 : m ≤ 5) : weightsOk m (vetoW m) = true := wts_ok h1 h5 (fun a _ _ => by omega) fun a _ => by omega
theorem wts_len {m : Int} {f : Int → Int} : (wtsOf m f).length ≤ 5 := by
  unfold wtsOf
  split
  · rename_i h
    have := inB_iff.1 h
    rw [mapTo_len]; omega
  · simp
theorem scores_bd {m : Int} {vs : List Vt} {ws : List Int} (F : PF m vs) (h : weightsOk m ws = true) (i : Nat) : 0 ≤ ix (scores m vs ws) i ∧ ix (scores m vs ws) i ≤ 12000000 := by
  have := scTo_bd F (weights_bd h).2 vs.length (Nat.le_refl _) i
  have := F.n
  unfold scores; omega
set_option maxRecDepth 100000 in
set_option maxHeartbeats 400000 in
theorem implScoreRanking (m : Int) (A : Option Addr) (n c : Nat) (vs : List Vt) (B : Option Addr) (l d : Nat) (ws : List Int) (w : World) (h : VotesAt w A n vs) (hn : n ≤ 1048576) (hx : ∀ v ∈ vs, v.r.length ≤ 1048576) (q : IntsAt w B l ws) (hl : l ≤ 1048576)
    (hp : profOk m vs = true) (hw : weightsOk m ws = true) :
    Calls Tryz.prog 106 #[.agg #[.int .i64 m, .slice A n c], .slice B l d] w fun e w' => ∃ A' c', e = .returned (.slice A' (sortS (scores m vs ws) m.toNat).length c') ∧ OwnI w' w.heap.size w'.heap.size (.slice A' (sortS (scores m vs ws) m.toNat).length c') (sortS (scores m vs ws) m.toNat) ∧ Below w.heap.size w w' := by
  have q0 := q.below (alloc_below w (.cells #[.int .i64 m, .slice A n c] 24))
  obtain rfl := h.len
  have hB := alloc_below w (.cells #[.int .i64 m, .slice A vs.length c] 24)
  obtain ⟨x0, x1⟩ := PBox.new w m A vs.length c 24 rfl
  replace h := h.below hB
  generalize hw0 : w.alloc (.cells #[.int .i64 m, .slice A vs.length c] 24) = w0 at *
  have K := Lib.hid (implScoresOf m A vs.length c vs B l d ws _ h hn hx q0 hl)
  have F := Lib.hid (pf_of hp)
  have BD := Lib.hid (scores_bd F.out hw)
  have er : scoresR m vs ws = scores m vs ws := by unfold scoresR; rw [hp, hw]; rfl
  rw [er] at K
  obtain ⟨M, rfl⟩ : ∃ M : Nat, m = (M : Int) := ⟨m.toNat, by have := F.out.m1; omega⟩
  have M1 : 1 ≤ M := by have := F.out.m1; omega
  have M5 : M ≤ 5 := by have := F.out.m5; omega
  have sl := scores_len (M : Int) vs ws
  rw [Int.toNat_natCast] at sl ⊢
  rw [sortS_len]
  clear hx q hp hw er q0 F
  generalize scores (M : Int) vs ws = ss at *
  rw [sl] at K
  have SL := Lib.hid sl
  clear sl
  go_enter Tryz.func106, Tryz.ntmps106
  go_wp2_with fail
  (with_reducible refine K.out.mono ?_)
  rintro e w1 ⟨A1, c1, rfl, o1, b1⟩
  obtain ⟨g1, rfl, g11, g12⟩ := o1.head M1
  replace x0 := cell_carry b1 x0
  replace hB := hB.trans (b1.mono hB.size)
  have b2 := alloc_below w1 (.cells #[.slice (some ⟨g1, 0, none⟩) M c1] 27)
  have y0 := new_cell w1 (.slice (some ⟨g1, 0, none⟩) M c1) 27 rfl
  have o2 := o1.alloc (.cells #[.slice (some ⟨g1, 0, none⟩) M c1] 27)
  replace x0 := cell_carry b2 x0
  replace hB := hB.trans (b2.mono hB.size)
  have z2 : (w1.alloc (.cells #[.slice (some ⟨g1, 0, none⟩) M c1] 27)).heap.size = w1.heap.size + 1 := by simp
  clear b1 b2 o1
  have he := Lib.run_eql_slice_nil (P := Tryz.prog) (w1.alloc (.cells #[.slice (some ⟨g1, 0, none⟩) M c1] 27)) 27 3 (some ⟨g1, 0, none⟩) M c1 0 0 Tryz.underlying27
  simp only [Option.isNone_some] at he
  generalize hw2 : w1.alloc (.cells #[.slice (some ⟨g1, 0, none⟩) M c1] 27) = w2 at *
  go_wp2_with fail
  (with_reducible refine (indicesE_any M _ (by omega)).mono ?_)
  rintro e w3 ⟨A3, c3, rfl, o3, b3⟩
  obtain ⟨g3, rfl, g31, g32⟩ := o3.head M1
  have zz := hB.size
  replace y0 := cell_carry b3 y0
  replace o2 := o2.belowW b3
  replace hB := hB.trans (b3.mono hB.size)
  have b3s := b3.size
  clear x0 b3 hw2
  have KK := Lib.hid (sortStable_any g3 c3 M w2.heap.size w3.heap.size (gb := w1.heap.size) (B := some ⟨g1, 0, none⟩) (l := M) (d := c1) (rs := ss) w3 o3 ⟨y0, o2.at_⟩ (by omega) (fun a e _ => by cases e; show g1 ≠ g3; omega) M1 (by omega) (Nat.le_refl _) (fun i _ => by have := BD.out i; omega))
  go_wp2_with fail
  (with_reducible refine KK.out.mono ?_)
  rintro e w4 ⟨⟨v, rfl⟩, o4, on4⟩
  have hBs := hB.size
  replace hB := hB.trans (on4.toBelow (by omega) hBs)
  have z4 := on4.size
  clear KK K y0 o2 o3 on4
  go_wp2
  go_ret
  exact ⟨_, _, rfl, o4.mono (by omega) z4, hB⟩
/-- of two candidates the one that beats the other, the lesser one of two that do not -/
def roT (vs : List Vt) (x y : Int) : Int := if beatsP vs (max x y) (min x y) then max x y else min x y
theorem roT_lt {vs : List Vt} {x y : Int} (h : x < y) : roT vs x y = if beatsP vs y x then y else x := by
  unfold roT; rw [show max x y = y by omega, show min x y = x by omega]
theorem roT_ge {vs : List Vt} {x y : Int} (h : ¬ x < y) : roT vs x y = if beatsP vs x y then x else y := by
  unfold roT; rw [show max x y = x by omega, show min x y = y by omega]
def runoffW (m : Int) (vs : List Vt) : Int :=
  if profOk m vs then (if m = 1 then 0 else roT vs (ix (sortS (scores m vs (plurW m)) m.toNat) 0) (ix (sortS (scores m vs (plurW m)) m.toNat) 1)) else -1
set_option maxHeartbeats 1000000 in
theorem implRunoff (m : Int) (A : Option Addr) (n c : Nat) (vs : List Vt) (w : World) (h : VotesAt w A n vs) (hn : n ≤ 1048576) (hx : ∀ v ∈ vs, v.r.length ≤ 1048576) :
    Calls Tryz.prog 62 #[.agg #[.int .i64 m, .slice A n c]] w fun e w' => e = .returned (.int .i64 (runoffW m vs)) ∧ Below w.heap.size w w' := by
  obtain rfl := h.len
  have hB := alloc_below w (.cells #[.int .i64 m, .slice A vs.length c] 24)
  obtain ⟨x0, x1⟩ := PBox.new w m A vs.length c 24 rfl
  replace h := h.below hB
  generalize hw0 : w.alloc (.cells #[.int .i64 m, .slice A vs.length c] 24) = w0 at *
  have K := Lib.hid (implProfileOk m A vs.length c vs _ h hn hx)
  have HX := Lib.hid hx
  unfold runoffW
  clear hx
  cases hp : profOk m vs
  · rw [hp] at K
    rw [if_neg (by simp)]
    go_enter Tryz.func62, Tryz.ntmps62
    go_wp2_with fail
    (with_reducible refine (K.out).mono ?_)
    rintro e w1 ⟨rfl, b1⟩
    replace hB := hB.trans (b1.mono hB.size)
    clear b1
    go_wp2
    go_ret
    exact ⟨rfl, hB⟩
  rw [hp] at K
  rw [if_pos rfl]
  have F := Lib.hid (pf_of hp)
  by_cases h1 : m = 1
  · subst h1
    rw [if_pos rfl]
    go_enter Tryz.func62, Tryz.ntmps62
    go_wp2_with fail
    (with_reducible refine (K.out).mono ?_)
    rintro e w1 ⟨rfl, b1⟩
    replace x0 := cell_carry b1 x0
    replace hB := hB.trans (b1.mono hB.size)
    clear b1
    go_wp2
    go_ret
    exact ⟨rfl, hB⟩
  rw [if_neg h1]
  have HP := Lib.hid hp
  clear hp
  obtain ⟨M, rfl⟩ : ∃ M : Nat, m = (M : Int) := ⟨m.toNat, by have := F.out.m1; omega⟩
  have M1 : 1 ≤ M := by have := F.out.m1; omega
  have M5 : M ≤ 5 := by have := F.out.m5; omega
  have M2 : 2 ≤ M := by omega
  have h1b : ((M : Int) == 1) = false := by rw [beq_eq_false_iff_ne]; omega
  rw [Int.toNat_natCast]
  have PL : (plurW (M : Int)).length ≤ 5 := wts_len
  have WO := Lib.hid (plur_ok (m := (M : Int)) (by omega) (by omega))
  have K2 := Lib.hid (fun B l d W hW q hl => implScoreRanking (M : Int) A vs.length c vs B l d (plurW (M : Int)) W hW hn HX.out q hl HP.out WO.out)
  have SL := sortS_len (scores (M : Int) vs (plurW (M : Int))) M
  rw [Int.toNat_natCast] at K2
  generalize sortS (scores (M : Int) vs (plurW (M : Int))) M = T at *
  rw [SL] at K2
  have K2 := Lib.hid K2
  have PLP := Lib.hid (fun W => implPlurality (M : Int) W)
  generalize plurW (M : Int) = ws at *
  clear h1
  go_enter Tryz.func62, Tryz.ntmps62
  go_wp2_with fail
  (with_reducible refine (K.out).mono ?_)
  rintro e w1 ⟨rfl, b1⟩
  replace x0 := cell_carry b1 x0
  replace x1 := cell_carry b1 x1
  replace h := h.below b1
  replace hB := hB.trans (b1.mono hB.size)
  clear b1
  clear K hw0
  have hbw := (Below.refl w1.heap.size w1).drew
  go_upto_region 5 with fail
  go_region_held3 (fun w' => w'.cell? ⟨w.heap.size, 0, none⟩ = some (.int .i64 (M : Int)) ∧ w'.cell? ⟨w.heap.size, 1, none⟩ = some (.slice A vs.length c)) ((refine ⟨?_, ?_⟩ <;> (first | assumption | go_keep)))
    (first
      | (go_at_call 56; (with_reducible refine (PLP.out _).mono ?_); rintro e w2 ⟨A2, c2, rfl, o2, b2⟩; have x0 := cell_carry b2 x0; have x1 := cell_carry b2 x1; have hbw := hbw.trans (b2.mono hbw.size))
      | (go_at_call 106; have KK2 := K2.out _ _ c2 _ (h.below hbw) o2.at_ (by omega); (with_reducible refine KK2.mono ?_); rintro e w3 ⟨A3, c3, rfl, o3, b3⟩; have x0 := cell_carry b3 x0; have x1 := cell_carry b3 x1; have hbw := hbw.trans (b3.mono hbw.size)))
  obtain ⟨g3, rfl, _, _⟩ := o3.head (by omega)
  have d0 := o3.cellAt 0 (by omega)
  have d1 := o3.cellAt 1 (by omega)
  have i1 : (1 : Int) < (M : Int) := by omega
  have i0 : (0 : Int) < (M : Int) := by omega
  replace h := h.below hbw
  replace hB := hB.trans (hbw.mono hB.size)
  have KB := Lib.hid (fun a b W hW => implBeats (M : Int) A vs.length c vs a b W hW F.out)
  clear o3 o2 b2 b3 hbw PLP K2
  obtain ⟨t0, ht0⟩ : ∃ x, ix T 0 = x := ⟨_, rfl⟩
  obtain ⟨t1, ht1⟩ : ∃ x, ix T 1 = x := ⟨_, rfl⟩
  rw [ht0] at d0
  rw [ht1] at d1
  have HT0 := Lib.hid ht0
  have HT1 := Lib.hid ht1
  clear ht0 ht1
  by_cases hlt : t0 < t1
  · have HR := Lib.hid (roT_lt (vs := vs) hlt)
    have nlt : ¬ (t1 < t0) := by omega
    go_wp2
    go_quiet (fail)
    go_wp2_with fail
    (with_reducible refine (KB.out t1 t0 (w3.drewN nq) (h.drewN _)).mono ?_)
    rintro e w5 ⟨rfl, b5⟩
    have hB5 := hB.trans ((below_of_drewN (w := w3) (w' := w3.drewN nq) rfl).trans b5 |>.mono hB.size)
    generalize beatsP vs t1 t0 = q at *
    cases q
    · go_wp2
      go_ret
      exact ⟨ret_i (by rw [HT0.out, HT1.out]; simpa using HR.out.symm), hB5⟩
    · go_wp2
      go_ret
      exact ⟨ret_i (by rw [HT0.out, HT1.out]; simpa using HR.out.symm), hB5⟩
  · have HR := Lib.hid (roT_ge (vs := vs) hlt)
    have e1 : (if t1 < t0 then t1 else t0) = t1 := by split <;> omega
    have e2 : (if t0 < t1 then t1 else t0) = t0 := by split <;> omega
    go_wp2
    go_quiet (fail)
    go_wp2_with fail
    (with_reducible refine (KB.out t0 t1 (w3.drewN nq) (h.drewN _)).mono ?_)
    rintro e w5 ⟨rfl, b5⟩
    have hB5 := hB.trans ((below_of_drewN (w := w3) (w' := w3.drewN nq) rfl).trans b5 |>.mono hB.size)
    generalize beatsP vs t0 t1 = q at *
    cases q
    · go_wp2
      go_ret
      exact ⟨ret_i (by rw [HT0.out, HT1.out]; simpa using HR.out.symm), hB5⟩
    · go_wp2
      go_ret
      exact ⟨ret_i (by rw [HT0.out, HT1.out]; simpa using HR.out.symm), hB5⟩
end Go.Proofs.YtaanppihgldeaaaGreatDoor
namespace Go.Proofs.YtaanppihgldeaaaGreatDoor
set_option linter.unusedSimpArgs false
set_option linter.unusedVariables false
set_option linter.unusedVariables false
open Go.RowKit

def amongF (vs : List Vt) (k : Int) (a : Nat) : Int := vts (fun r => decide (place r (a : Int) < k)) vs
theorem amongFirst1 (A' : Option Addr) (c' g1 g2 : Nat) (r : List Int) (a k : Int) (W : World) (hin : IntsAt W A' r.length r) (hl : r.length ≤ 5) (y0 : W.cell? ⟨g1, 0, none⟩ = some (.int .i64 a)) (z0 : W.cell? ⟨g2, 0, none⟩ = some (.int .i64 k)) :
    Calls Tryz.prog 172 #[.slice A' r.length c', .pointer (some ⟨g1, 0, none⟩), .pointer (some ⟨g2, 0, none⟩)] W fun e W' => e = .returned (.bool (decide (place r a < k))) ∧ Below W.heap.size W W' := by
  have K1 := Lib.hid (fun n => Calls.quiet_of_same (n := n) ((implPlaceOf_any A' r.length c' r a (W.drewN n) (hin.drewN _) (by omega)).mono fun _ _ ⟨he, hw⟩ => ⟨he, hw.symm⟩))
  generalize place r a = p at *
  go_enter Tryz.func172, Tryz.ntmps172
  go_wp2
  go_quiet ((with_reducible exact K1.out _))
  go_wp2
  go_ret
  exact ⟨rfl, below_of_drewN rfl⟩
set_option maxHeartbeats 400000 in
theorem implAmongFirst (m : Int) (A : Option Addr) (n c : Nat) (vs : List Vt) (k : Int) (w : World) (h : VotesAt w A n vs) (F : PF m vs) :
    Calls Tryz.prog 114 #[.agg #[.int .i64 m, .slice A n c], .int .i64 k] w fun e w' => ∃ A' c', e = .returned (.slice A' m.toNat c') ∧ OwnI w' w.heap.size w'.heap.size (.slice A' m.toNat c') (lfn (amongF vs k) m.toNat) ∧ Below w.heap.size w w' := by
  obtain rfl := h.len
  have hB := alloc_below w (.cells #[.int .i64 m, .slice A vs.length c] 24)
  obtain ⟨x0, x1⟩ := PBox.new w m A vs.length c 24 rfl
  replace h := h.below hB
  generalize hw0 : w.alloc (.cells #[.int .i64 m, .slice A vs.length c] 24) = w0 at *
  have s0 : w0.heap.size = w.heap.size + 1 := by rw [← hw0]; simp
  have b1 := alloc_below w0 (.cells #[.int .i64 k] 3)
  have y0 := new_cell w0 (.int .i64 k) 3 rfl
  have s1 : (w0.alloc (.cells #[.int .i64 k] 3)).heap.size = w.heap.size + 2 := by simp [s0]
  replace x0 := cell_carry b1 x0
  replace x1 := cell_carry b1 x1
  replace h := h.below b1
  replace hB := hB.trans (b1.mono hB.size)
  clear b1 s0
  have S1 := Lib.hid s1
  clear s1
  generalize hw1 : w0.alloc (.cells #[.int .i64 k] 3) = w1 at *
  obtain ⟨M, rfl⟩ : ∃ M : Nat, m = (M : Int) := ⟨m.toNat, by have := F.m1; omega⟩
  have M5 : M ≤ 5 := by have := F.m5; omega
  rw [Int.toNat_natCast]
  go_enter Tryz.func114, Tryz.ntmps114
  go_wp2_with ((with_reducible refine wpList_make_ints _ rfl _ _ rfl M rfl rfl (by omega) ?_))
  intro w3 ho hb hs
  have e0 := part_start (full := amongF vs k) (M := M) 0
  rw [e0] at ho
  have z0 := hB.size
  have gs : w1.heap.size < w3.heap.size := by omega
  clear hs e0 hw0
  go_wp2
  go_loopw [6, 12] (fun _ i wr => ∃ j : Nat, j ≤ M ∧ i = .int .i64 j ∧ OwnI wr w1.heap.size (w1.heap.size + 1) (.slice (some ⟨w1.heap.size, 0, none⟩) M M) (lfn (part (amongF vs k) j 0 0) M) ∧ Below w1.heap.size w1 wr ∧ w1.heap.size < wr.heap.size) (fun _ i _ => M - (intOf i).toNat)
  case atStart => exact ⟨0, Nat.zero_le _, rfl, ho, hb, gs⟩
  case round =>
    clear ho hb gs
    obtain ⟨j, hj, rfl, hok, hbr, zr⟩ := hrel
    by_cases hlt : j < M
    · have b3 := alloc_below wr (.cells #[.int .i64 (j : Int)] 3)
      have u0 := new_cell wr (.int .i64 (j : Int)) 3 rfl
      have ok2 := hok.alloc (.cells #[.int .i64 (j : Int)] 3)
      have zz : wr.heap.size < (wr.alloc (.cells #[.int .i64 (j : Int)] 3)).heap.size := by simp
      replace hbr := hbr.trans (b3.mono hbr.size)
      generalize hw4 : wr.alloc (.cells #[.int .i64 (j : Int)] 3) = w4 at *
      clear hok b3
      have hv := h.below hbr
      have x0' := cell_carry hbr x0
      have x1' := cell_carry hbr x1
      have y0' := cell_carry hbr y0
      have K1 : Hid (∀ L : Later w4, Calls Tryz.prog 145 #[.agg #[.int .i64 (M : Int), .slice A vs.length c], .func (.func 172) #[] #[.pointer (some ⟨wr.heap.size, 0, none⟩), .pointer (some ⟨w0.heap.size, 0, none⟩)]] L.W fun e W' => e = .returned (.int .i64 (amongF vs k j)) ∧ ∃ L' : Later w4, W' = L'.W) :=
        fun L => L.call (implVoters 172 _ (fun r => decide (place r (j : Int) < k)) (M : Int) A vs.length c vs L.W (hv.below L.h) F.n F.c (enters Tryz.func172 (by kernel_rfl) rfl) (fun A' c' v W hvm hin hcc hb =>
          amongFirst1 A' c' _ _ v.r (j : Int) k W hin (by have := F.l v hvm; have := F.m5; omega) (cell_carry hb (L.cell u0)) (cell_carry hb (L.cell y0'))))
      have q0 : ∀ L : Later w4, L.W.cell? ⟨w.heap.size, 0, none⟩ = some (.int .i64 (M : Int)) := fun L => L.cell x0'
      have q1 : ∀ L : Later w4, L.W.cell? ⟨w.heap.size, 1, none⟩ = some (.slice A vs.length c) := fun L => L.cell x1'
      have q2 : ∀ L : Later w4, L.W.cell? ⟨wr.heap.size, 0, none⟩ = some (.int .i64 (j : Int)) := fun L => L.cell u0
      have z4 : w1.heap.size < w4.heap.size := by omega
      obtain ⟨y, hy⟩ : ∃ y, amongF vs k j = y := ⟨_, rfl⟩
      rw [hy] at K1
      have HS := Lib.hid hy.symm
      clear hy
      clear x0 x1 y0 hv x0' x1' y0' h
      go_upto_region 5 with fail
      refine wp_region_later_tail 6 (by kernel_rfl) (by kernel_rfl) ?_
      simp only [List.take_succ_cons, List.take_zero, List.drop_succ_cons, List.drop_zero]
      repeat (go_big_quiet_step (first | (with_reducible exact K1.out _)))
      (refine wpQuiet_nil ?_; rintro wl ⟨L_, hwl_⟩; have hbl := L_.h; rw [← hwl_] at hbl; clear hwl_ L_)
      have hol := ok2.belowW hbl
      have f1 := hol.frozenAt j
      have f2 := hol.cellAt j hlt
      obtain ⟨ho6, hon6⟩ := hol.stored j y
      rw [part_set _ hlt, part_next (M := M) HS.out] at ho6
      have hbw := hbr.trans (hbl.mono hbr.size)
      have z5 := hbl.size
      clear K1 q0 q1 q2 ok2 hol hbl
      go_wp2
      go_roundw
      case rel => exact ⟨j + 1, by omega, by go_num, ho6, hbw.trans (hon6.toBelow (Nat.le_refl _) hbw.size), by rw [World.size_setCell]; omega⟩
      case measure => simp [intOf]; omega
    · obtain rfl : j = M := by omega
      rw [part_end] at hok
      have hB5 := hB.trans (hbr.mono hB.size)
      go_wp2
      go_ret
      exact ⟨_, _, rfl, hok.mono z0 (by omega), hB5⟩
def amongL (m : Int) (vs : List Vt) (k : Int) : List Int := lfn (amongF vs k) m.toNat
theorem amongL_len (m : Int) (vs : List Vt) (k : Int) : (amongL m vs k).length = m.toNat := lfn_len _ _
theorem among_bd {m : Int} {vs : List Vt} (F : PF m vs) (k : Int) (a : Nat) : 0 ≤ amongF vs k a ∧ amongF vs k a ≤ 24000 := vts_bd F.c F.n
theorem amongL_bd {m : Int} {vs : List Vt} (F : PF m vs) (k : Int) : ∀ x ∈ amongL m vs k, 0 ≤ x ∧ x ≤ 24000 := by
  intro x hx
  obtain ⟨j, hj, rfl⟩ := List.getElem_of_mem hx
  rw [amongL_len] at hj
  rw [← ix_lt (by rw [amongL_len]; exact hj), amongL, lfn_ix hj]
  exact among_bd F k j
theorem lmax_mem {xs : List Int} (h : 0 < xs.length) : lmax xs ∈ xs := lmaxTo_mem xs _ (by omega)
theorem among_all {m : Int} {vs : List Vt} (F : PF m vs) (k : Int) (hk : m ≤ k) (a : Nat) (ha : (a : Int) < m) : amongF vs k a = votersP vs := by
  unfold amongF votersP vts
  have : ∀ n, n ≤ vs.length → vtsTo (fun r => decide (place r (a : Int) < k)) vs n = vtsTo (fun _ => true) vs n := by
    intro n hn
    induction n with
    | zero => rfl
    | succ n ih =>
      have hv := vx_mem (vs := vs) (j := n) (by omega)
      have h2 := (place_bd (vx vs n).r (a : Int)).2
      have h3 := F.l _ hv
      rw [vtsTo, vtsTo, ih (by omega), decide_eq_true (by omega)]
  exact this _ (Nat.le_refl _)
theorem voters_pos {m : Int} {vs : List Vt} (F : PF m vs) (h : 0 < vs.length) : 1 ≤ votersP vs := by
  unfold votersP vts
  obtain ⟨n, hn⟩ : ∃ n, vs.length = n + 1 := ⟨vs.length - 1, by omega⟩
  have h1 := F.c1 _ (vx_mem (vs := vs) (j := n) (by omega))
  have h2 := (vtsTo_bd (f := fun _ => true) F.c n (by omega)).1
  rw [hn, vtsTo, if_pos rfl]
  omega
theorem among_stop {m : Int} {vs : List Vt} (F : PF m vs) (h : 0 < vs.length) (k : Int) (hk : m ≤ k) : ¬ 2 * lmax (amongL m vs k) ≤ votersP vs := by
  have h1 := lmax_mem (xs := amongL m vs k) (by rw [amongL_len]; have := F.m1; omega)
  obtain ⟨j, hj, e⟩ := List.getElem_of_mem h1
  rw [amongL_len] at hj
  rw [← ix_lt (by rw [amongL_len]; exact hj), amongL, lfn_ix hj, among_all F k hk j (by omega)] at e
  have := voters_pos F h
  rw [amongL, ← e]
  omega
/-- the first k from j on at which more than half of the voters rank someone among the first k -/
def buckTo (m : Int) (vs : List Vt) : Nat → Nat → Nat
  | 0, k => k
  | f + 1, k => if 2 * lmax (amongL m vs (k : Int)) ≤ votersP vs then buckTo m vs f (k + 1) else k
theorem buckTo_next {m : Int} {vs : List Vt} (F : PF m vs) (h : 0 < vs.length) {k : Nat} (hk : 2 * lmax (amongL m vs (k : Int)) ≤ votersP vs) : buckTo m vs (m.toNat - k) k = buckTo m vs (m.toNat - (k + 1)) (k + 1) := by
  have h2 : (k : Int) < m := by
    by_cases h3 : (k : Int) < m
    · exact h3
    · exact absurd hk (among_stop F h k (by omega))
  rw [show m.toNat - k = (m.toNat - (k + 1)) + 1 by omega, buckTo, if_pos hk]
theorem buckTo_end {m : Int} {vs : List Vt} {k f : Nat} (hk : ¬ 2 * lmax (amongL m vs (k : Int)) ≤ votersP vs) : buckTo m vs f k = k := by
  cases f with
  | zero => rfl
  | succ f => rw [buckTo, if_neg hk]
def buckLevel (m : Int) (vs : List Vt) : Int := if profOk m vs then (if vs.length = 0 then 0 else (buckTo m vs (m.toNat - 1) 1 : Nat)) else -1
set_option maxRecDepth 100000 in
set_option maxHeartbeats 1000000 in
theorem implBucklinLevel (m : Int) (A : Option Addr) (n c : Nat) (vs : List Vt) (w : World) (h : VotesAt w A n vs) (hn : n ≤ 1048576) (hx : ∀ v ∈ vs, v.r.length ≤ 1048576) :
    Calls Tryz.prog 113 #[.agg #[.int .i64 m, .slice A n c]] w fun e w' => e = .returned (.int .i64 (buckLevel m vs)) ∧ Below w.heap.size w w' := by
  obtain rfl := h.len
  have hB := alloc_below w (.cells #[.int .i64 m, .slice A vs.length c] 24)
  obtain ⟨x0, x1⟩ := PBox.new w m A vs.length c 24 rfl
  replace h := h.below hB
  generalize hw0 : w.alloc (.cells #[.int .i64 m, .slice A vs.length c] 24) = w0 at *
  have K := Lib.hid (implProfileOk m A vs.length c vs _ h hn hx)
  have KC := fun W hW => implCountVoters m A vs.length c vs W hW hn hx
  unfold buckLevel
  clear hx
  cases hp : profOk m vs
  · rw [hp] at K
    rw [if_neg (by simp)]
    clear KC
    go_enter Tryz.func113, Tryz.ntmps113
    go_wp2_with fail
    (with_reducible refine (K.out).mono ?_)
    rintro e w1 ⟨rfl, b1⟩
    replace hB := hB.trans (b1.mono hB.size)
    clear b1
    go_wp2
    go_ret
    exact ⟨rfl, hB⟩
  rw [hp] at K
  rw [if_pos rfl]
  rw [hp, if_pos rfl] at KC
  have KC := Lib.hid KC
  have F := Lib.hid (pf_of hp)
  clear hp
  by_cases h0 : vs.length = 0
  · rw [if_pos h0]
    have h0b : ((vs.length : Int) == 0) = true := by rw [h0]; rfl
    clear h0 hn
    go_enter Tryz.func113, Tryz.ntmps113
    go_wp2_with fail
    (with_reducible refine (K.out).mono ?_)
    rintro e w1 ⟨rfl, b1⟩
    replace x0 := cell_carry b1 x0
    replace x1 := cell_carry b1 x1
    replace hB := hB.trans (b1.mono hB.size)
    clear b1
    go_wp2
    go_ret
    exact ⟨rfl, hB⟩
  rw [if_neg h0]
  have hpos : 0 < vs.length := by omega
  have h0b : ((vs.length : Int) == 0) = false := by rw [beq_eq_false_iff_ne]; omega
  clear h0
  have KA := Lib.hid (fun k W hW => implAmongFirst m A vs.length c vs k W hW F.out)
  have HST := Lib.hid (fun k hk => among_stop F.out hpos k hk)
  have HNX := Lib.hid (fun (k : Nat) (hk : 2 * lmax (amongL m vs (k : Int)) ≤ votersP vs) => buckTo_next F.out hpos hk)
  have HEN := Lib.hid (fun (k f : Nat) (hk : ¬ 2 * lmax (amongL m vs (k : Int)) ≤ votersP vs) => buckTo_end (f := f) hk)
  have LB := Lib.hid (fun k => (amongL_bd F.out k _ (lmax_mem (xs := amongL m vs k) (by rw [amongL_len]; have := F.out.m1; omega))))
  have LM := Lib.hid (fun k A1 c1 W (hI : IntsAt W A1 m.toNat (amongL m vs k)) => max_any A1 m.toNat c1 (amongL m vs k) W hI (by have := F.out.m5; omega) (by have := F.out.m1; omega))
  have m1 := F.out.m1
  have m5 := F.out.m5
  clear F
  generalize votersP vs = V at *
  obtain ⟨T, hT⟩ : ∃ T, buckTo m vs (m.toNat - 1) 1 = T := ⟨_, rfl⟩
  have HT := Lib.hid hT
  rw [hT]
  clear hT
  go_enter Tryz.func113, Tryz.ntmps113
  go_wp2_with fail
  (with_reducible refine (K.out).mono ?_)
  rintro e w1 ⟨rfl, b1⟩
  replace x0 := cell_carry b1 x0
  replace x1 := cell_carry b1 x1
  replace h := h.below b1
  replace hB := hB.trans (b1.mono hB.size)
  clear b1
  clear K hw0
  have x0' := x0
  go_wp2
  go_loopw [3] (fun i wr => ∃ k : Nat, 1 ≤ k ∧ k ≤ m.toNat ∧ i = .int .i64 k ∧ Hid (buckTo m vs (m.toNat - k) k = T) ∧ Below w1.heap.size w1 wr) (fun i _ => m.toNat - (intOf i).toNat)
  case atStart => exact ⟨1, by omega, by omega, rfl, HT.out, Below.refl _ _⟩
  case round =>
    obtain ⟨k, k1, km, rfl, HK, hb⟩ := hrel
    have x0' := cell_carry hb x0
    have x1' := cell_carry hb x1
    have hv := h.below hb
    have hl := LB.out (k : Int)
    have LK := Lib.hid (LM.out (k : Int))
    have AK := Lib.hid (fun W hW => KA.out (k : Int) W hW)
    have SK := Lib.hid (HST.out (k : Int))
    have NK := Lib.hid (HNX.out k)
    have EK := Lib.hid (HEN.out k (m.toNat - k))
    have hbw := (Below.refl wr.heap.size wr).drew
    clear h x0 x1
    unfold amongL at *
    generalize lfn (amongF vs (k : Int)) m.toNat = xs at *
    generalize lmax xs = y at *
    have ew : IntKind.i64.wrap (2 * y) = 2 * y := IntWalk.i64_in _ (by omega)
    by_cases hle : 2 * y ≤ V
    · have hkm : (k : Int) < m := Int.lt_of_not_ge fun h => by have := SK.out h; omega
      have t0 : decide (2 * y ≤ V) = true := decide_eq_true hle
      go_upto_region 6 with fail
      go_region_held3 (fun w' => w'.cell? ⟨w.heap.size, 0, none⟩ = some (.int .i64 m) ∧ w'.cell? ⟨w.heap.size, 1, none⟩ = some (.slice A vs.length c)) ((refine ⟨?_, ?_⟩ <;> (first | assumption | go_keep)))
        (first
          | (go_at_call 114; have KK := AK.out _ (hv.below hbw); (with_reducible refine KK.mono ?_); rintro e w2 ⟨A2, c2, rfl, o2, b2⟩; have x0' := cell_carry b2 x0'; have x1' := cell_carry b2 x1'; have hbw := hbw.trans (b2.mono hbw.size))
          | (go_at_call 102; have KK := LK.out _ c2 _ o2.at_; (with_reducible refine KK.mono ?_); rintro e w3 ⟨rfl, rfl⟩)
          | (go_at_call 78; have KK := KC.out _ (hv.below hbw); (with_reducible refine KK.mono ?_); rintro e w4 ⟨rfl, b4⟩; have x0' := cell_carry b4 x0'; have x1' := cell_carry b4 x1'; have hbw := hbw.trans (b4.mono hbw.size); (try have o2 := o2.belowW b4)))
      all_goals
        have hbf := hb.trans (hbw.mono hb.size)
        clear hbw b2 o2 LK AK KC
        go_wp2
        go_roundw
        case rel => exact ⟨k + 1, by omega, by omega, by go_num, by have := NK.out hle; rw [← this]; exact HK.out, hbf⟩
        case measure => simp [intOf]; omega
    · have t0 : decide (2 * y ≤ V) = false := decide_eq_false hle
      go_upto_region 6 with fail
      go_region_held3 (fun w' => w'.cell? ⟨w.heap.size, 0, none⟩ = some (.int .i64 m) ∧ w'.cell? ⟨w.heap.size, 1, none⟩ = some (.slice A vs.length c)) ((refine ⟨?_, ?_⟩ <;> (first | assumption | go_keep)))
        (first
          | (go_at_call 114; have KK := AK.out _ (hv.below hbw); (with_reducible refine KK.mono ?_); rintro e w2 ⟨A2, c2, rfl, o2, b2⟩; have x0' := cell_carry b2 x0'; have x1' := cell_carry b2 x1'; have hbw := hbw.trans (b2.mono hbw.size))
          | (go_at_call 102; have KK := LK.out _ c2 _ o2.at_; (with_reducible refine KK.mono ?_); rintro e w3 ⟨rfl, rfl⟩)
          | (go_at_call 78; have KK := KC.out _ (hv.below hbw); (with_reducible refine KK.mono ?_); rintro e w4 ⟨rfl, b4⟩; have x0' := cell_carry b4 x0'; have x1' := cell_carry b4 x1'; have hbw := hbw.trans (b4.mono hbw.size); (try have o2 := o2.belowW b4)))
      all_goals
        have hbf := hB.trans ((hb.trans (hbw.mono hb.size)).mono hB.size)
        clear hbw b2 o2 LK AK KC
        have HE := Lib.hid (EK.out hle)
        clear hle
        go_wp2
        go_ret
        exact ⟨ret_i (by have h1 := HK.out; rw [HE.out] at h1; rw [h1]), hbf⟩
/-- Bucklin's winner -/
def bucklinW (m : Int) (vs : List Vt) : Int := if buckLevel m vs < 1 then buckLevel m vs else ix (greatest (amongL m vs (buckLevel m vs))) 0
theorem greatest_pos {xs : List Int} (h : 0 < xs.length) : 0 < (greatest xs).length := by
  have key : ∀ k, (∃ j, j < k ∧ ix xs j = lmax xs) → 0 < (greatTo xs k).length := by
    intro k
    induction k with
    | zero => rintro ⟨j, hj, _⟩; omega
    | succ k ih =>
      rintro ⟨j, hj, e⟩
      rw [greatTo, List.length_append]
      by_cases e2 : j = k
      · subst e2; rw [if_pos e]; simp
      · have := ih ⟨j, by omega, e⟩; omega
  obtain ⟨j, hj, e⟩ := List.getElem_of_mem (lmax_mem h)
  exact key _ ⟨j, hj, by rw [ix_lt hj]; exact e⟩
set_option maxHeartbeats 400000 in
theorem implBucklin (m : Int) (A : Option Addr) (n c : Nat) (vs : List Vt) (w : World) (h : VotesAt w A n vs) (hn : n ≤ 1048576) (hx : ∀ v ∈ vs, v.r.length ≤ 1048576) :
    Calls Tryz.prog 67 #[.agg #[.int .i64 m, .slice A n c]] w fun e w' => e = .returned (.int .i64 (bucklinW m vs)) ∧ Below w.heap.size w w' := by
  obtain rfl := h.len
  have hB := alloc_below w (.cells #[.int .i64 m, .slice A vs.length c] 24)
  obtain ⟨x0, x1⟩ := PBox.new w m A vs.length c 24 rfl
  replace h := h.below hB
  generalize hw0 : w.alloc (.cells #[.int .i64 m, .slice A vs.length c] 24) = w0 at *
  have K := Lib.hid (implBucklinLevel m A vs.length c vs _ h hn hx)
  unfold bucklinW
  have HP : 1 ≤ buckLevel m vs → profOk m vs = true := fun hh => by
    by_cases e : profOk m vs = true
    · exact e
    · unfold buckLevel at hh; rw [if_neg e] at hh; omega
  generalize buckLevel m vs = k at *
  clear hx
  by_cases hk : k < 1
  · rw [if_pos hk]
    go_enter Tryz.func67, Tryz.ntmps67
    go_wp2_with fail
    (with_reducible refine (K.out).mono ?_)
    rintro e w1 ⟨rfl, b1⟩
    replace hB := hB.trans (b1.mono hB.size)
    clear b1
    go_wp2
    go_ret
    exact ⟨rfl, hB⟩
  · rw [if_neg hk]
    have F := pf_of (HP (by omega))
    clear HP
    have K2 := Lib.hid (fun W hW => implAmongFirst m A vs.length c vs k W hW F)
    have GP := greatest_pos (xs := amongL m vs k) (by rw [amongL_len]; have := F.m1; omega)
    have m5 := F.m5
    unfold amongL at *
    have GL : (lfn (amongF vs k) m.toNat).length = m.toNat := lfn_len _ _
    generalize lfn (amongF vs k) m.toNat = xs at *
    clear F
    go_enter Tryz.func67, Tryz.ntmps67
    go_wp2_with fail
    (with_reducible refine (K.out).mono ?_)
    rintro e w1 ⟨rfl, b1⟩
    replace x0 := cell_carry b1 x0
    replace x1 := cell_carry b1 x1
    replace h := h.below b1
    replace hB := hB.trans (b1.mono hB.size)
    clear b1
    go_wp2_with fail
    (with_reducible refine (K2.out _ h).mono ?_)
    rintro e w2 ⟨A2, c2, rfl, o2, b2⟩
    replace hB := hB.trans (b2.mono hB.size)
    clear b2 hw0
    go_wp2_with fail
    (with_reducible refine (implGreatest A2 _ c2 xs _ o2.at_ (by omega)).mono ?_)
    rintro e w3 ⟨A3, c3, rfl, o3, b3⟩
    replace hB := hB.trans (b3.mono hB.size)
    obtain ⟨g3, rfl, _, _⟩ := o3.head GP
    have d0 := o3.cellAt 0 GP
    clear b3 o2 o3 K K2
    go_wp2
    go_ret
    exact ⟨rfl, hB⟩
end Go.Proofs.YtaanppihgldeaaaGreatDoor
