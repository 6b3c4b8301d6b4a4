/- Bucklin, the reference's side. -/
import Derived.Test.YtaanppihgldeaaaGreatDoorW27
import Derived.Test.YtaanppihgldeaaaGreatDoorW11
import Derived.Test.YtaanppihgldeaaaGreatDoorW25
import Derived.Deep.RegionWith
namespace Go.Proofs.YtaanppihgldeaaaGreatDoor
set_option linter.unusedSimpArgs false
set_option linter.unusedVariables false
set_option linter.unusedVariables false
open Go.RowKit

/-- how many of the first n votes' voters have a at place k -/
def atTo (vs : List Vt) (a n k : Nat) : Int := vtsTo (fun r => place r (a : Int) == (k : Int)) vs n
def atF (vs : List Vt) (a k : Nat) : Int := vts (fun r => place r (a : Int) == (k : Int)) vs
theorem at_set {M : Nat} {vs : List Vt} {a n q : Nat} (hq : q < M) (he : place (vx vs n).r (a : Int) = (q : Int)) : (lfn (atTo vs a n) M).set q (ix (lfn (atTo vs a n) M) q + (vx vs n).c) = lfn (atTo vs a (n + 1)) M := by
  rw [lfn_set _ hq]
  refine lfn_ext fun i _ => ?_
  unfold atTo
  rw [lfn_ix hq, vtsTo, he]
  by_cases e : i = q
  · subst e; rw [if_pos rfl, if_pos (by simp)]
  · rw [if_neg e, if_neg (by rw [beq_iff_eq]; omega)]; simp
theorem at_bd {m : Int} {vs : List Vt} (F : PF m vs) (a n k : Nat) (hn : n ≤ vs.length) : 0 ≤ atTo vs a n k ∧ atTo vs a n k ≤ 24000 := by
  have := vtsTo_bd (f := fun r => place r (a : Int) == (k : Int)) F.c n hn
  have := F.n
  unfold atTo
  omega
theorem among_at {m : Int} {vs : List Vt} (F : PF m vs) {a : Nat} (ha : (a : Int) < m) (k : Nat) : amongF vs ((k + 1 : Nat) : Int) a = amongF vs (k : Int) a + atF vs a k := by
  unfold amongF atF vts
  have key : ∀ n, n ≤ vs.length → vtsTo (fun r => decide (place r (a : Int) < ((k + 1 : Nat) : Int))) vs n = vtsTo (fun r => decide (place r (a : Int) < (k : Int))) vs n + vtsTo (fun r => place r (a : Int) == (k : Int)) vs n := by
    intro n
    induction n with
    | zero => intro _; rfl
    | succ n ih =>
      intro hn
      rw [vtsTo, vtsTo, vtsTo, ih (by omega)]
      simp only [decide_eq_true_eq, beq_iff_eq]
      by_cases h1 : place (vx vs n).r (a : Int) = (k : Int)
      · rw [if_pos (by omega), if_neg (by omega), if_pos h1]; omega
      · by_cases h2 : place (vx vs n).r (a : Int) < (k : Int)
        · rw [if_pos (by omega), if_pos h2, if_neg h1]; omega
        · rw [if_neg (by omega), if_neg h2, if_neg h1]; omega
  exact key _ (Nat.le_refl _)
theorem among_zero {m : Int} {vs : List Vt} (F : PF m vs) {a : Nat} (ha : (a : Int) < m) : amongF vs 0 a = 0 := by
  unfold amongF
  rw [vts_congr (g := fun _ => false) fun v hv => ?_]
  · exact vts_none vs
  · have h1 := F.m1
    obtain ⟨M, rfl⟩ : ∃ M : Nat, m = (M : Int) := ⟨m.toNat, by omega⟩
    have := rank_place (F.r v hv) (x := (a : Int)) (by omega) ha
    exact decide_eq_false (by omega)
theorem among_sum {m : Int} {vs : List Vt} (F : PF m vs) {a : Nat} (ha : (a : Int) < m) : ∀ k : Nat, amongF vs (k : Int) a = sumN (atF vs a) k
  | 0 => by rw [sumN]; exact among_zero F ha
  | k + 1 => by rw [among_at F ha, among_sum F ha k, sumN]
set_option maxRecDepth 100000 in
set_option maxHeartbeats 2000000 in
theorem specPlaceTable (M : Nat) (A : Option Addr) (n c : Nat) (vs : List Vt) (w : World) (h : VotesAt w A n vs) (hp : profOk (M : Int) vs = true) :
    Calls Tryz.prog 214 #[.agg #[.int .i64 (M : Int), .slice A n c]] w fun e w' => ∃ A' c', e = .returned (.slice A' M c') ∧ OwnR w' w.heap.size w'.heap.size (.slice A' M c') (mat (atF vs) M) ∧ Below w.heap.size w w' := by
  obtain ⟨m, hm⟩ : ∃ m : Int, m = (M : Int) := ⟨_, rfl⟩
  rw [← hm] at hp ⊢
  obtain rfl := h.len
  have hB := alloc_below w (.cells #[.int .i64 m, .slice A vs.length c] 24)
  obtain ⟨x0, x1⟩ := PBox.new w m A vs.length c 24 rfl
  replace h := h.below hB
  generalize hw0 : w.alloc (.cells #[.int .i64 m, .slice A vs.length c] 24) = w0 at *
  have F := Lib.hid (pf_of hp)
  have K := Lib.hid (specProfileOk m A vs.length c vs _ h (by have := F.out.n; omega) (fun v hv => by have := F.out.l v hv; have := F.out.m5; omega))
  rw [hp] at K
  subst hm
  have M5 : M ≤ 5 := by have := F.out.m5; omega
  have M1 : 1 ≤ M := by have := F.out.m1; omega
  have n5 := F.out.n
  have HAT := Lib.hid (fun a n k hn => at_bd F.out a n k hn)
  have HR := Lib.hid (fun (a k : Nat) (ha : a < M) (hk : k < vs.length) => rank_place (F.out.r _ (vx_mem hk)) (x := (a : Int)) (by omega) (by omega))
  have HC := Lib.hid (fun (k : Nat) (hk : k < vs.length) => F.out.c _ (vx_mem hk))
  have HL := Lib.hid (fun (k : Nat) (hk : k < vs.length) => F.out.l _ (vx_mem hk))
  clear hp F
  go_enter Tryz.func214, Tryz.ntmps214
  go_wp2_with fail
  (with_reducible refine (K.out).mono ?_)
  rintro e w1 ⟨rfl, b1⟩
  replace x0 := cell_carry b1 x0
  replace x1 := cell_carry b1 x1
  replace h := h.below b1
  replace hB := hB.trans (b1.mono hB.size)
  clear b1
  clear K hw0
  have b3 := alloc_below w1 (.cells #[] 27)
  have o3 := OwnR.empty w1 (lo := w1.heap.size) (hi := (w1.alloc (.cells #[] 27)).heap.size) (Nat.le_refl _) (by simp)
  have x0' := cell_carry b3 x0
  go_wp2
  go_loopw [3, 4] (fun v i wr => ∃ (k : Nat) (A' : Option Addr) (c' : Nat), k ≤ M ∧ i = .int .i64 k ∧ v = .slice A' k c' ∧ OwnR wr w1.heap.size wr.heap.size (.slice A' k c') (gfn (fun a => lfn (atF vs a) M) k) ∧ Below w1.heap.size w1 wr) (fun _ i _ => M - (intOf i).toNat)
  case atStart => exact ⟨0, _, 0, Nat.zero_le _, rfl, rfl, o3, b3⟩
  case round =>
    clear o3 b3 x0'
    obtain ⟨wo, rfl⟩ : ∃ wo, wo = wr := ⟨_, rfl⟩
    obtain ⟨k, A1, c1, hk, rfl, rfl, hok, hbr⟩ := hrel
    have x0' := cell_carry hbr x0
    have zr := hbr.size
    by_cases hlt : k < M
    · have kk : (k : Int) < (M : Int) := by omega
      go_wp2_with (first | (at_make; refine wpList_make_ints _ rfl _ _ rfl M rfl rfl (by omega) ?_) | fail)
      intro w4 hr4 hb4 hz4
      have e0 : List.replicate M (0 : Int) = lfn (atTo vs k 0) M := by rw [lfn_rep]; rfl
      rw [e0] at hr4
      have gs : wo.heap.size < w4.heap.size := by omega
      have hbr4 := hbr.trans (hb4.mono hbr.size)
      have x1' := cell_carry hbr4 x1
      clear hz4 x0' e0
      go_wp2
      go_loopw [25] (fun i wr => ∃ j : Nat, j ≤ vs.length ∧ i = .int .i64 j ∧ OwnI wr wo.heap.size (wo.heap.size + 1) (.slice (some ⟨wo.heap.size, 0, none⟩) M M) (lfn (atTo vs k j) M) ∧ Below wo.heap.size wo wr ∧ wo.heap.size < wr.heap.size) (fun i _ => vs.length - (intOf i).toNat)
      case atStart => exact ⟨0, Nat.zero_le _, rfl, hr4, hb4, gs⟩
      case round =>
        clear hr4 hb4 gs x1' hbr4
        obtain ⟨j, hj, rfl, hoj, hbj, zj⟩ := hrel
        have hbt := hbr.trans (hbj.mono hbr.size)
        by_cases hlj : j < vs.length
        · obtain ⟨b, o, A', c', rfl, _, hc1, hc2, hcc, hin⟩ := (h.below hbt).at_ hlj
          have PL := HR.out k j hlt hlj
          have VC := HC.out j hlj
          have VL := HL.out j hlj
          have HS := Lib.hid (fun q (hq : q < M) he => at_set (vs := vs) (a := k) (n := j) (q := q) hq he)
          have AB := Lib.hid (fun q => HAT.out k j q (by omega))
          generalize vx vs j = v at *
          have b1 := alloc_below wr (.cells #[.slice A' v.r.length c', .int .i64 v.c] 44)
          obtain ⟨y0, y1⟩ := new_pair wr (.slice A' v.r.length c') (.int .i64 v.c) 44 rfl
          have ho4 := hoj.alloc (.cells #[.slice A' v.r.length c', .int .i64 v.c] 44)
          have hb4 := hbj.trans (b1.mono hbj.size)
          have hin4 := hin.below b1
          have z4 : wo.heap.size < (wr.alloc (.cells #[.slice A' v.r.length c', .int .i64 v.c] 44)).heap.size := by simp; omega
          generalize hw4 : wr.alloc (.cells #[.slice A' v.r.length c', .int .i64 v.c] 44) = w5 at *
          clear b1 hoj hbj hin hbt
          have KP := Lib.hid (specPlaceOf_any A' v.r.length c' v.r (k : Int) w5 hin4 (by omega))
          generalize place v.r (k : Int) = p0 at *
          obtain ⟨p, rfl⟩ : ∃ p : Nat, p0 = (p : Int) := ⟨p0.toNat, by omega⟩
          have hpl : p < M := by omega
          have HS2 := Lib.hid (HS.out p hpl rfl)
          have AB2 := AB.out p
          clear HS AB PL
          have d1 := ho4.cellAt p hpl
          have f1 := ho4.frozenAt p
          obtain ⟨ho6, hon6⟩ := ho4.stored p (ix (lfn (atTo vs k j) M) p + v.c)
          rw [HS2.out] at ho6
          rw [lfn_ix hpl] at d1 hon6 ho6
          generalize atTo vs k j p = y at *
          have ew : IntKind.i64.wrap (y + v.c) = y + v.c := IntWalk.i64_in _ (by omega)
          have i1 : (p : Int) < (M : Int) := by omega
          have hb6 := hb4.trans (hon6.toBelow (Nat.le_refl _) hb4.size)
          have HB6 := Lib.hid hb6
          have HO6 := Lib.hid ho6
          clear hb6 ho6 hon6 ho4 HS2
          go_wp2_with fail
          (with_reducible refine KP.out.mono ?_)
          rintro e w6 ⟨rfl, rfl⟩
          clear KP hc1 hc2
          go_upto_region 12 with fail
          go_still_tail 10, (by kernel_rfl)
          change wpList _ _ _ _ _ w5.drew
          have d6 : w5.drew.frozen? _ = _ := f1
          clear y0 y1 ew
          go_wp2
          go_roundw
          case rel => exact ⟨j + 1, by omega, by go_num, HO6.out, HB6.out.drew, by show _ < (w5.setCell _ _).heap.size; rw [World.size_setCell]; omega⟩
          case measure => simp [intOf]; omega
        · obtain rfl : j = vs.length := by omega
          have hown := hok.belowW hbj
          have hoj2 : OwnI wr wo.heap.size (wo.heap.size + 1) (.slice (some ⟨wo.heap.size, 0, none⟩) M M) (lfn (atF vs k) M) := hoj
          have HN : Hid (gfn (fun a => lfn (atF vs a) M) (k + 1) = gfn (fun a => lfn (atF vs a) M) k ++ [lfn (atF vs k) M]) := gfn_succ _ _
          clear hok hbj hoj
          go_wp2_with (at_builtin; refine wpList_append_row _ rfl _ _ rfl w1.heap.size wo.heap.size k _ _ _ rfl (hown.alloc _) (some ⟨wo.heap.size, 0, none⟩) M M (lfn (atF vs k) M) wo.heap.size (wo.heap.size + 1) (hoj2.alloc _) (Nat.le_refl _) (by simp; omega) _ 1 rfl (new_cell _ _ _ rfl) (by omega) zr (by simp; omega) ?_)
          intro A6 c6 w6 ho6 hon
          rw [← HN.out] at ho6
          have hb6 := (hbt.alloc (by omega) _).trans (hon.toBelow (Nat.le_refl _) (by simp; omega))
          have x0' := cell_carry hb6 x0
          clear hon hown hoj2 hbt
          go_wp2
          go_roundw
          case rel => exact ⟨k + 1, _, _, by omega, by go_num, rfl, ho6, hb6⟩
          case measure => simp [intOf]; omega
    · obtain rfl : k = M := by omega
      have hB5 := hB.trans (hbr.mono hB.size)
      have z5 := hB.size
      go_wp2
      go_ret
      exact ⟨_, _, rfl, hok.mono z5 (Nat.le_refl _), hB5⟩
theorem atF_sum {m : Int} {vs : List Vt} (F : PF m vs) (a : Nat) : ∀ j : Nat, 0 ≤ sumN (atF vs a) j ∧ sumN (atF vs a) j ≤ 24000 * j := fun j => by
  have h := sumN_bd (lo := 0) (hi := 24000) (fun b => at_bd F a vs.length b (Nat.le_refl _)) j
  change 0 * _ ≤ sumN (atF vs a) j ∧ sumN (atF vs a) j ≤ _ at h
  omega
set_option maxRecDepth 100000 in
set_option maxHeartbeats 2000000 in
theorem specWithin (M : Nat) (A : Option Addr) (n c : Nat) (vs : List Vt) (K : Nat) (w : World) (h : VotesAt w A n vs) (hp : profOk (M : Int) vs = true) (hK : K ≤ M) :
    Calls Tryz.prog 187 #[.agg #[.int .i64 (M : Int), .slice A n c], .int .i64 (K : Int)] w fun e w' => ∃ A' c', e = .returned (.slice A' M c') ∧ OwnI w' w.heap.size w'.heap.size (.slice A' M c') (amongL (M : Int) vs (K : Int)) ∧ Below w.heap.size w w' := by
  obtain ⟨m, hm⟩ : ∃ m : Int, m = (M : Int) := ⟨_, rfl⟩
  rw [← hm] at hp ⊢
  obtain rfl := h.len
  have hB := alloc_below w (.cells #[.int .i64 m, .slice A vs.length c] 24)
  obtain ⟨x0, x1⟩ := PBox.new w m A vs.length c 24 rfl
  replace h := h.below hB
  generalize hw0 : w.alloc (.cells #[.int .i64 m, .slice A vs.length c] 24) = w0 at *
  have F := Lib.hid (pf_of hp)
  subst hm
  have M5 : M ≤ 5 := by have := F.out.m5; omega
  have M1 : 1 ≤ M := by have := F.out.m1; omega
  have KT := Lib.hid (fun W hW => specPlaceTable M A vs.length c vs W hW hp)
  have HA := Lib.hid (fun (a : Nat) (ha : a < M) => among_sum F.out (a := a) (by omega) K)
  have HB := Lib.hid (fun a j => atF_sum F.out a j)
  unfold amongL
  rw [Int.toNat_natCast]
  clear hp F
  have b3 := alloc_below w0 (.cells #[] 3)
  have o3 := OwnI.empty w0 (lo := w0.heap.size) (hi := (w0.alloc (.cells #[] 3)).heap.size) (Nat.le_refl _) (by simp)
  have h2 := h.below b3
  have z0 := hB.size
  replace x0 := cell_carry b3 x0
  replace x1 := cell_carry b3 x1
  replace hB := hB.trans (b3.mono hB.size)
  have z3 : (w0.alloc (.cells #[] 3)).heap.size = w0.heap.size + 1 := by simp
  have HZ3 := Lib.hid z3
  rw [z3] at o3
  clear z3
  generalize hw1 : w0.alloc (.cells #[] 3) = w1 at *
  clear h b3
  go_enter Tryz.func187, Tryz.ntmps187
  go_wp2_with fail
  (with_reducible refine (KT.out _ h2).mono ?_)
  rintro e w2 ⟨A2, c2, rfl, o2, b2⟩
  obtain ⟨g, rfl, gl, gh⟩ := o2.head (by omega)
  have z2 := b2.size
  have o4 := o3.belowW b2
  clear KT h2 o3 x0 x1 hw1 hw0
  have z3 := HZ3.out
  replace hB := hB.trans (b2.mono hB.size)
  go_wp2
  go_loopw [5, 15] (fun v i wr => ∃ (k : Nat) (A' : Option Addr) (c' lo hi : Nat), k ≤ M ∧ i = .int .i64 k ∧ v = .slice A' k c' ∧ OwnI wr lo hi (.slice A' k c') (lfn (amongF vs (K : Int)) k) ∧ (w0.heap.size ≤ lo ∧ lo ≤ wr.heap.size ∧ hi ≤ wr.heap.size ∧ (hi ≤ w1.heap.size ∨ w2.heap.size ≤ lo)) ∧ OwnR wr w1.heap.size w2.heap.size (.slice (some ⟨g, 0, none⟩) M c2) (mat (atF vs) M) ∧ Below w0.heap.size w2 wr) (fun _ i _ => M - (intOf i).toNat)
  case atStart => exact ⟨0, _, 0, _, _, Nat.zero_le _, rfl, rfl, o4, ⟨Nat.le_refl _, by omega, by omega, .inl (by omega)⟩, o2, Below.refl _ _⟩
  case round =>
    clear o4 o2
    obtain ⟨wo, rfl⟩ : ∃ wo, wo = wr := ⟨_, rfl⟩
    obtain ⟨k, A1, c1, lo, hi, hk, rfl, rfl, ho, hlh, hor, hb⟩ := hrel
    have hr := hor.at_
    have zr := hb.size
    have HOR := Lib.hid hor
    have HBW := Lib.hid hb
    by_cases hlt : k < M
    · obtain ⟨b, o, A3, c3, e3, _, hc3, hcap, hin⟩ := hr.at_ hlt
      cases e3
      rw [mat_rx hlt, lfn_len] at hc3 hcap
      rw [mat_rx hlt] at hin
      have SB := Lib.hid (fun j => HB.out k j)
      have SA := HA.out k hlt
      have k1 : (0 : Int) ≤ (K : Int) := by omega
      have k2 : (K : Int) ≤ (c3 : Int) := by omega
      have k3 : (K : Int) ≤ (M : Int) := by omega
      have kk : (k : Int) < (M : Int) := by omega
      rw [Nat.zero_add] at hc3
      have hl3 : (lfn (atF vs k) M).length = M := lfn_len _ _
      rw [hl3] at hin
      have HN : Hid (lfn (amongF vs (K : Int)) (k + 1) = lfn (amongF vs (K : Int)) k ++ [sumN (atF vs k) K]) := by show _ = _; rw [lfn_succ, SA]
      clear SA
      go_wp2
      go_loopw [8, 10, 23] (fun v _ i wr => ∃ j : Nat, j ≤ K ∧ i = .int .i64 j ∧ v = .int .i64 (sumN (atF vs k) j) ∧ wr = wo) (fun _ _ i _ => K - (intOf i).toNat)
      case atStart => exact ⟨0, Nat.zero_le _, rfl, rfl, rfl⟩
      case round =>
        obtain ⟨j, hj, rfl, rfl, rfl⟩ := hrel
        by_cases hlj : j < K
        · obtain ⟨b5, o5, rfl, _, cr⟩ := hin.at_ (show 0 < M by omega)
          have d1 := cr j (by omega)
          rw [lfn_ix (by omega)] at d1
          have HS : Hid (sumN (atF vs k) (j + 1) = sumN (atF vs k) j + atF vs k j) := rfl
          have s1 := SB.out j
          have s2 := SB.out (j + 1)
          rw [HS.out] at s2
          generalize sumN (atF vs k) j = X at *
          generalize atF vs k j = Y at *
          have i1 : (j : Int) < (K : Int) := by omega
          have ew : IntKind.i64.wrap (X + Y) = X + Y := IntWalk.i64_in _ (by omega)
          clear cr
          go_wp2
          go_roundw
          case rel => exact ⟨j + 1, by omega, by go_num, by rw [HS.out], by trivial⟩
          case measure => simp [intOf]; omega
        · obtain rfl : j = K := by omega
          clear hin hc3 k1 k2 k3 hr hb
          have hbw := HBW.out
          have hor2 := HOR.out
          go_wp2_with (at_builtin; refine wpList_append_int2 _ rfl _ _ rfl lo hi k c1 A1 _ rfl (ho.alloc _) (sumN (atF vs k) j) _ 1 rfl (new_cell _ _ _ rfl) (by omega) (by simp; omega) (by simp; omega) ?_)
          intro A5 c5 w5 l5 h5 ho5 hon hsz hlo
          rw [← HN.out] at ho5
          have hb5 := (hbw.alloc (by omega) (.cells #[.int .i64 (sumN (atF vs k) j)] 3)).trans (hon.toBelow hlh.1 (by simp; omega))
          have hor5 := (hor2.alloc (.cells #[.int .i64 (sumN (atF vs k) j)] 3)).only hon (by omega)
          have hz5 : (wr.alloc (.cells #[.int .i64 (sumN (atF vs k) j)] 3)).heap.size = wr.heap.size + 1 := by simp
          have hl5 : w0.heap.size ≤ l5 ∧ l5 ≤ w5.heap.size ∧ h5 ≤ w5.heap.size ∧ (h5 ≤ w1.heap.size ∨ w2.heap.size ≤ l5) := by omega
          clear hon ho hlo hsz hbw hor2 hz5
          go_wp2
          go_roundw
          case rel => exact ⟨k + 1, A5, c5, l5, h5, by omega, by go_num, rfl, ho5, hl5, hor5, hb5⟩
          case measure => simp [intOf]; omega
    · obtain rfl : k = M := by omega
      have hB5 := hB.trans (hb.mono (by omega))
      go_wp2
      go_ret
      exact ⟨_, _, rfl, ho.mono (by omega) (by omega), hB5⟩
theorem lmax_ge {xs : List Int} {j : Nat} (h : j < xs.length) : ix xs j ≤ lmax xs := lmaxTo_ge xs _ j (by omega)
theorem buck_is {m : Int} {vs : List Vt} (F : PF m vs) (h : 0 < vs.length) {k : Nat} (hk : ¬ 2 * lmax (amongL m vs (k : Int)) ≤ votersP vs) :
    ∀ d j : Nat, j + d = k → (∀ i : Nat, j ≤ i → i < k → 2 * lmax (amongL m vs (i : Int)) ≤ votersP vs) → buckTo m vs (m.toNat - j) j = k
  | 0, j, e, _ => by
    have : j = k := by omega
    subst this; exact buckTo_end hk
  | d + 1, j, e, hl => by
    rw [buckTo_next F h (hl j (Nat.le_refl _) (by omega))]
    exact buck_is F h hk d (j + 1) (by omega) fun i h1 h2 => hl i (by omega) h2
theorem among_nil {m : Int} {k : Int} (h : 0 < m) : lmax (amongL m [] k) = 0 := by
  have := lmax_mem (xs := amongL m [] k) (by rw [amongL_len]; omega)
  obtain ⟨j, hj, e⟩ := List.getElem_of_mem this
  rw [amongL_len] at hj
  rw [← ix_lt (by rw [amongL_len]; exact hj), amongL, lfn_ix hj] at e
  rw [amongL, ← e]; rfl
theorem buck_yes {m : Int} {vs : List Vt} (hp : profOk m vs = true) {k : Nat} (k1 : 1 ≤ k) (hl : ∀ i : Nat, 1 ≤ i → i < k → 2 * lmax (amongL m vs (i : Int)) ≤ votersP vs) (hk : ¬ 2 * lmax (amongL m vs (k : Int)) ≤ votersP vs) : buckLevel m vs = (k : Int) := by
  have F := pf_of hp
  unfold buckLevel
  rw [if_pos hp]
  by_cases h0 : vs.length = 0
  · exfalso
    have : vs = [] := List.eq_nil_of_length_eq_zero h0
    subst this
    rw [among_nil (by have := F.m1; omega)] at hk
    exact hk (by show (2 : Int) * 0 ≤ 0; omega)
  · rw [if_neg h0, buck_is F (by omega) hk (k - 1) 1 (by omega) hl]
theorem buck_no {m : Int} {vs : List Vt} (hp : profOk m vs = true) (hl : ∀ i : Nat, 1 ≤ i → (i : Int) < m + 1 → 2 * lmax (amongL m vs (i : Int)) ≤ votersP vs) : buckLevel m vs = 0 := by
  have F := pf_of hp
  have h1 := F.m1
  unfold buckLevel
  rw [if_pos hp]
  by_cases h0 : vs.length = 0
  · rw [if_pos h0]
  · exfalso
    have := hl m.toNat (by omega) (by omega)
    exact among_stop F (by omega) _ (by omega) this
set_option maxRecDepth 100000 in
set_option maxHeartbeats 2000000 in
theorem specLevel (M : Nat) (A : Option Addr) (n c : Nat) (vs : List Vt) (w : World) (h : VotesAt w A n vs) (hp : profOk (M : Int) vs = true) :
    Calls Tryz.prog 188 #[.agg #[.int .i64 (M : Int), .slice A n c]] w fun e w' => e = .returned (.int .i64 (buckLevel (M : Int) vs)) ∧ Below w.heap.size w w' := by
  obtain ⟨m, hm⟩ : ∃ m : Int, m = (M : Int) := ⟨_, rfl⟩
  rw [← hm] at hp ⊢
  obtain rfl := h.len
  have hB := alloc_below w (.cells #[.int .i64 m, .slice A vs.length c] 24)
  obtain ⟨x0, x1⟩ := PBox.new w m A vs.length c 24 rfl
  replace h := h.below hB
  generalize hw0 : w.alloc (.cells #[.int .i64 m, .slice A vs.length c] 24) = w0 at *
  have F := Lib.hid (pf_of hp)
  subst hm
  have M5 : M ≤ 5 := by have := F.out.m5; omega
  have M1 : 1 ≤ M := by have := F.out.m1; omega
  have KW := Lib.hid (fun (K : Nat) (hK : K ≤ M) W hW => specWithin M A vs.length c vs K W hW hp hK)
  have KV := Lib.hid (fun W hW => specVoters (M : Int) A vs.length c vs W hW F.out.n F.out.c)
  have YES := Lib.hid (fun (k : Nat) k1 hl hk => buck_yes (k := k) hp k1 hl hk)
  have NO := Lib.hid (fun hl => buck_no hp hl)
  have BD := Lib.hid (fun (k : Int) => amongL_bd F.out k)
  have LN := Lib.hid (fun (k : Int) => (amongL_len (M : Int) vs k).trans (Int.toNat_natCast M))
  generalize votersP vs = V at *
  obtain ⟨T, hT⟩ : ∃ T, buckLevel (M : Int) vs = T := ⟨_, rfl⟩
  have HT := Lib.hid hT
  rw [hT]
  clear hT hp F
  go_enter Tryz.func188, Tryz.ntmps188
  go_wp2
  clear hw0
  go_loopw [3] (fun i wr => ∃ k : Nat, 1 ≤ k ∧ k ≤ M + 1 ∧ i = .int .i64 k ∧ Hid (∀ i : Nat, 1 ≤ i → i < k → 2 * lmax (amongL (M : Int) vs (i : Int)) ≤ V) ∧ Below w0.heap.size w0 wr) (fun i _ => M + 1 - (intOf i).toNat)
  case atStart => exact ⟨1, by omega, by omega, rfl, (fun i h1 h2 => by omega), Below.refl _ _⟩
  case round =>
    obtain ⟨k, k1, km, rfl, HK, hb⟩ := hrel
    have x0' := cell_carry hb x0
    have x1' := cell_carry hb x1
    have z0 := hb.size
    by_cases hlt : k ≤ M
    · have hv := h.below hb
      have kk : (k : Int) ≤ (M : Int) := by omega
      have LB := Lib.hid (BD.out (k : Int))
      have LL := LN.out (k : Int)
      have LM := Lib.hid (fun j (hj : j < M) => lmax_ge (xs := amongL (M : Int) vs (k : Int)) (j := j) (by omega))
      have LX := Lib.hid (lmax_mem (xs := amongL (M : Int) vs (k : Int)) (by omega))
      have HYES := Lib.hid (fun hh => YES.out k k1 HK.out hh)
      have HNX : Hid (2 * lmax (amongL (M : Int) vs (k : Int)) ≤ V → ∀ i : Nat, 1 ≤ i → i < k + 1 → 2 * lmax (amongL (M : Int) vs (i : Int)) ≤ V) := fun hh i h1 h2 => by
        by_cases e : i = k
        · subst e; exact hh
        · exact HK.out i h1 (by omega)
      have K2 := Lib.hid (KW.out k hlt)
      generalize amongL (M : Int) vs (k : Int) = xs at *
      go_wp2_with fail
      (with_reducible refine (K2.out _ hv).mono ?_)
      rintro e w2 ⟨A2, c2, rfl, o2, b2⟩
      have hb2 := hb.trans (b2.mono hb.size)
      clear b2 K2 x0' x1' hv
      go_wp2
      go_loopw [16] (fun i wr => ∃ j : Nat, j ≤ M ∧ i = .int .i64 j ∧ Hid (∀ i, i < j → 2 * ix xs i ≤ V) ∧ Below w2.heap.size w2 wr) (fun i _ => M - (intOf i).toNat)
      case atStart => exact ⟨0, Nat.zero_le _, rfl, (fun i hi => by omega), Below.refl _ _⟩
      case round =>
        obtain ⟨j, hj, rfl, HJ, hbj⟩ := hrel
        have hbt := hb2.trans (hbj.mono hb2.size)
        have x0' := cell_carry hbt x0
        have x1' := cell_carry hbt x1
        by_cases hlj : j < M
        · have d0 := (o2.at_.below hbj)
          obtain ⟨b5, o5, rfl, _, cr⟩ := d0.at_ hlj
          have d1 := cr j hlj
          have lb := LB.out _ (ix_mem (show j < xs.length by omega))
          have lm := LM.out j hlj
          have KV2 := Lib.hid (KV.out _ (h.below hbt))
          have i1 : (j : Int) < (M : Int) := by omega
          have ew : IntKind.i64.wrap (2 * ix xs j) = 2 * ix xs j := IntWalk.i64_in _ (by omega)
          have HJ2 : Hid (2 * ix xs j ≤ V → ∀ i, i < j + 1 → 2 * ix xs i ≤ V) := fun hh i h1 => by
            by_cases e : i = j
            · subst e; exact hh
            · exact HJ.out i (by omega)
          generalize ix xs j = y at *
          clear cr d0
          by_cases hgt : V < 2 * y
          · have t0 : decide (V < 2 * y) = true := decide_eq_true hgt
            go_wp2_with fail
            (with_reducible refine KV2.out.mono ?_)
            rintro e w6 ⟨rfl, b6⟩
            have hB6 := hB.trans ((hbt.trans (b6.mono hbt.size)).mono hB.size)
            clear b6 KV2 x0' x1'
            go_wp2
            go_ret
            exact ⟨ret_i (by rw [← HT.out, HYES.out (by omega)]), hB6⟩
          · have t0 : decide (V < 2 * y) = false := decide_eq_false hgt
            go_wp2_with fail
            (with_reducible refine KV2.out.mono ?_)
            rintro e w6 ⟨rfl, b6⟩
            have hb6 := hbj.trans (b6.mono hbj.size)
            clear b6 KV2 x0' x1'
            go_wp2
            go_roundw
            case rel => exact ⟨j + 1, by omega, by go_num, HJ2.out (by omega), hb6⟩
            case measure => simp [intOf]; omega
        · have HN : Hid (2 * lmax xs ≤ V) := by
            obtain ⟨i, hi, e⟩ := List.getElem_of_mem LX.out
            have := HJ.out i (by omega)
            rw [ix_lt hi, e] at this
            exact this
          obtain rfl : j = M := by omega
          go_wp2
          go_roundw
          case rel => exact ⟨k + 1, by omega, by omega, by go_num, HNX.out HN.out, hbt⟩
          case measure => simp [intOf]; omega
    · have kk : ¬ (k : Int) ≤ (M : Int) := by omega
      have hB5 := hB.trans (hb.mono hB.size)
      have HE := Lib.hid (NO.out fun i h1 h2 => HK.out i h1 (by omega))
      go_wp2
      go_ret
      exact ⟨ret_i (by rw [← HT.out, HE.out]), hB5⟩
theorem buckTo_le (m : Int) (vs : List Vt) : ∀ f k, buckTo m vs f k ≤ f + k
  | 0, k => by rw [buckTo]; omega
  | f + 1, k => by
    rw [buckTo]
    split
    · have := buckTo_le m vs f (k + 1); omega
    · omega
theorem buck_level_nat {m : Int} {vs : List Vt} (hp : profOk m vs = true) : ∃ K : Nat, buckLevel m vs = (K : Int) ∧ (K : Int) ≤ m := by
  have h1 := (pf_of hp).m1
  unfold buckLevel
  rw [if_pos hp]
  split
  · exact ⟨0, rfl, by omega⟩
  · have := buckTo_le m vs (m.toNat - 1) 1
    exact ⟨_, rfl, by omega⟩
theorem great_head {xs : List Int} (h : 0 < xs.length) (e : ix xs 0 = lmax xs) : ix (greatest xs) 0 = 0 := by
  have key : ∀ k, 0 < k → ∃ t, greatTo xs k = 0 :: t := by
    intro k hk
    induction k with
    | zero => omega
    | succ k ih =>
      rw [greatTo]
      by_cases hk0 : k = 0
      · subst hk0
        rw [if_pos e]
        exact ⟨[], rfl⟩
      · obtain ⟨t, ht⟩ := ih (by omega)
        rw [ht]
        exact ⟨_, rfl⟩
  obtain ⟨t, ht⟩ := key xs.length h
  unfold greatest
  rw [ht]; rfl
theorem buck_spec {m : Int} {vs : List Vt} (hp : profOk m vs = true) : bucklinW m vs = ix (greatest (amongL m vs (buckLevel m vs))) 0 := by
  have F := pf_of hp
  have h1 := F.m1
  obtain ⟨K, hK, _⟩ := buck_level_nat hp
  unfold bucklinW
  rw [hK]
  by_cases h0 : (K : Int) < 1
  · have : K = 0 := by omega
    subst this
    rw [if_pos h0]
    have hz : ∀ j, j < m.toNat → ix (amongL m vs ((0 : Nat) : Int)) j = 0 := fun j hj => by
      rw [amongL, lfn_ix hj]
      exact among_zero F (by omega)
    have hm := lmax_mem (xs := amongL m vs ((0 : Nat) : Int)) (by rw [amongL_len]; omega)
    obtain ⟨j, hj, e⟩ := List.getElem_of_mem hm
    rw [← ix_lt hj, hz j (by rwa [amongL_len] at hj)] at e
    rw [great_head (by rw [amongL_len]; omega) (by rw [← e]; exact hz 0 (by omega))]
    rfl
  · rw [if_neg h0]
set_option maxRecDepth 100000 in
set_option maxHeartbeats 1000000 in
theorem specBucklin (m : Int) (A : Option Addr) (n c : Nat) (vs : List Vt) (w : World) (h : VotesAt w A n vs) (hn : n ≤ 1048576) (hx : ∀ v ∈ vs, v.r.length ≤ 1048576) :
    Calls Tryz.prog 140 #[.agg #[.int .i64 m, .slice A n c]] w fun e w' => e = .returned (.int .i64 (bucklinW m vs)) ∧ Below w.heap.size w w' := by
  obtain rfl := h.len
  have hB := alloc_below w (.cells #[.int .i64 m, .slice A vs.length c] 24)
  obtain ⟨x0, x1⟩ := PBox.new w m A vs.length c 24 rfl
  replace h := h.below hB
  generalize hw0 : w.alloc (.cells #[.int .i64 m, .slice A vs.length c] 24) = w0 at *
  have K := Lib.hid (specProfileOk m A vs.length c vs _ h hn hx)
  clear hx
  cases hp : profOk m vs
  · rw [hp] at K
    have e0 : buckLevel m vs = -1 := by unfold buckLevel; rw [if_neg (by rw [hp]; simp)]
    have e : bucklinW m vs = -1 := by unfold bucklinW; rw [e0]; rfl
    rw [e]
    go_enter Tryz.func140, Tryz.ntmps140
    go_wp2_with fail
    (with_reducible refine (K.out).mono ?_)
    rintro e w1 ⟨rfl, b1⟩
    replace hB := hB.trans (b1.mono hB.size)
    clear b1
    go_wp2
    go_ret
    exact ⟨rfl, hB⟩
  rw [hp] at K
  rw [buck_spec hp]
  have F := Lib.hid (pf_of hp)
  obtain ⟨M, rfl⟩ : ∃ M : Nat, m = (M : Int) := ⟨m.toNat, by have := F.out.m1; omega⟩
  have M5 : M ≤ 5 := by have := F.out.m5; omega
  have M1 : 1 ≤ M := by have := F.out.m1; omega
  obtain ⟨L, hL, hLM⟩ := buck_level_nat hp
  have KL := Lib.hid (fun W hW => specLevel M A vs.length c vs W hW hp)
  rw [hL] at KL ⊢
  have KW := Lib.hid (fun W hW => specWithin M A vs.length c vs L W hW hp (by omega))
  have ll : (amongL (M : Int) vs (L : Int)).length = M := (amongL_len (M : Int) vs (L : Int)).trans (Int.toNat_natCast M)
  have GP := greatest_pos (xs := amongL (M : Int) vs (L : Int)) (by omega)
  clear hL hp F
  generalize amongL (M : Int) vs (L : Int) = xs at *
  go_enter Tryz.func140, Tryz.ntmps140
  go_wp2_with fail
  (with_reducible refine (K.out).mono ?_)
  rintro e w1 ⟨rfl, b1⟩
  replace x0 := cell_carry b1 x0
  replace x1 := cell_carry b1 x1
  replace h := h.below b1
  replace hB := hB.trans (b1.mono hB.size)
  clear b1
  clear K hw0
  have hbw := (Below.refl w1.heap.size w1).drew
  have x0' := x0
  have x1' := x1
  go_upto_region 3 with fail
  go_region_with
    (first
      | (go_at_call 188; have KK := KL.out _ (h.below hbw); (with_reducible refine KK.mono ?_); rintro e w2 ⟨rfl, b2⟩; have x0' := cell_carry b2 x0'; have x1' := cell_carry b2 x1'; have hbw := hbw.trans (b2.mono hbw.size))
      | (go_at_call 187; have KK := KW.out _ (h.below hbw); (with_reducible refine KK.mono ?_); rintro e w3 ⟨A3, c3, rfl, o3, b3⟩; have x0' := cell_carry b3 x0'; have x1' := cell_carry b3 x1'; have hbw := hbw.trans (b3.mono hbw.size))
      | (go_at_call 132; have KK := specBest A3 _ c3 xs _ o3.at_ (by omega); (with_reducible refine KK.mono ?_); rintro e w4 ⟨A4, c4, rfl, o4, b4⟩; have x0' := cell_carry b4 x0'; have x1' := cell_carry b4 x1'; have hbw := hbw.trans (b4.mono hbw.size); obtain ⟨g4, rfl, _, _⟩ := o4.head GP; have d0 := o4.cellAt 0 GP))
  all_goals
    have hbf := hB.trans (hbw.mono hB.size)
    go_wp2
    go_ret
    exact ⟨rfl, hbf⟩
end Go.Proofs.YtaanppihgldeaaaGreatDoor
