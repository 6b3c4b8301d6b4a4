/- l08Pairs, the reference's side. -/
import Derived.Test.YtaanppihgldeaaaGreatDoorW23
namespace Go.Proofs.YtaanppihgldeaaaGreatDoor
set_option linter.unusedSimpArgs false
set_option linter.unusedVariables false
set_option linter.unusedVariables false
open Go.RowKit

set_option maxRecDepth 100000 in
set_option maxHeartbeats 4000000 in
theorem specPairs (M : Nat) (A : Option Addr) (n c : Nat) (vs : List Vt) (w : World) (h : VotesAt w A n vs) (hp : profOk (M : Int) vs = true) :
    Calls Tryz.prog 215 #[.agg #[.int .i64 (M : Int), .slice A n c]] w fun e w' => ∃ A' c' Z, e = .returned (.slice A' (List.length Z) c') ∧ w'.ownsRow w.heap.size 27 1 (.slice A' Z.length c') Z.length (Z.map Prod.fst) ∧ RowsZ w' w.heap.size w'.heap.size Z ∧ Z.map Prod.snd = sortedR (keyR vs) (pairsOf vs M) ∧ Below w.heap.size w w' := by
  obtain ⟨m, hm⟩ : ∃ m : Int, m = (M : Int) := ⟨_, rfl⟩
  rw [← hm] at hp ⊢
  obtain rfl := h.len
  have hB := alloc_below w (.cells #[.int .i64 m, .slice A vs.length c] 24)
  obtain ⟨x0, x1⟩ := PBox.new w m A vs.length c 24 rfl
  replace h := h.below hB
  generalize hw0 : w.alloc (.cells #[.int .i64 m, .slice A vs.length c] 24) = w0 at *
  have F := Lib.hid (pf_of hp)
  subst hm
  have M5 : M ≤ 5 := by have := F.out.m5; omega
  have KB := Lib.hid (fun a b W hW => specBeats (M : Int) A vs.length c vs a b W hW F.out)
  have KM := Lib.hid (fun a b ha hb W hW => specMarginOf (M : Int) A vs.length c vs a b W hW hp ha hb)
  have MB := Lib.hid (fun a b => margin_bd F.out a b)
  clear hp F
  have b3 := alloc_below w0 (.cells #[] 27)
  have r3 : (w0.alloc (.cells #[] 27)).ownsRow w0.heap.size 27 1 (.slice (some ⟨w0.heap.size, 0, none⟩) 0 0) 0 [] := World.ownsRow_lit (e := 27) (size := 1) (base := w0.heap.size) w0 #[] 0 (Nat.le_refl _) (by unfold maxLen; omega) rfl
  go_enter Tryz.func215, Tryz.ntmps215
  go_wp2
  clear hw0
  go_loopw [3, 4] (fun v i wr => ∃ (a : Nat) (Z : List ZE) (A' : Option Addr) (c' : Nat), a ≤ M ∧ i = .int .i64 a ∧ v = .slice A' Z.length c' ∧ (∃ g, A' = some ⟨g, 0, none⟩) ∧ wr.ownsRow w0.heap.size 27 1 (.slice A' Z.length c') Z.length (Z.map Prod.fst) ∧ RowsZ wr w0.heap.size wr.heap.size Z ∧ Hid (Z.map Prod.snd = sortedR (keyR vs) (metP vs M a 0)) ∧ Hid (Desc (fun p => keyR vs p.2) Z) ∧ Hid (∀ p ∈ Z, PairOk M p.2) ∧ Below w0.heap.size w0 wr) (fun _ i _ => M - (intOf i).toNat)
  case atStart => exact ⟨0, [], _, 0, Nat.zero_le _, rfl, rfl, ⟨_, rfl⟩, r3, ⟨fun p hp => by simp at hp, by simp⟩, (by show _ = _; rfl), desc_nil _, (fun p hp => by simp at hp), b3⟩
  case round =>
    clear r3 b3
    obtain ⟨a, Z, A1, c1, ha, rfl, rfl, hA1, hown, hrz, HSN, HDS, HPO, hb⟩ := hrel
    have x0' := cell_carry hb x0
    by_cases hla : a < M
    · have ka : (a : Int) < (M : Int) := by omega
      go_wp2
      clear x0'
      go_loopw [3, 5] (fun v i wr => ∃ (b : Nat) (Z : List ZE) (A' : Option Addr) (c' : Nat), b ≤ M ∧ i = .int .i64 b ∧ v = .slice A' Z.length c' ∧ (∃ g, A' = some ⟨g, 0, none⟩) ∧ wr.ownsRow w0.heap.size 27 1 (.slice A' Z.length c') Z.length (Z.map Prod.fst) ∧ RowsZ wr w0.heap.size wr.heap.size Z ∧ Hid (Z.map Prod.snd = sortedR (keyR vs) (metP vs M a b)) ∧ Hid (Desc (fun p => keyR vs p.2) Z) ∧ Hid (∀ p ∈ Z, PairOk M p.2) ∧ Below w0.heap.size w0 wr) (fun _ i _ => M - (intOf i).toNat)
      case atStart => exact ⟨0, Z, A1, c1, Nat.zero_le _, rfl, rfl, hA1, hown, hrz, HSN, HDS, HPO, hb⟩
      case round =>
        clear HSN HDS HPO hown hrz hA1 hb
        obtain ⟨b, Z, A1, c1, hbM, rfl, rfl, ⟨gg, rfl⟩, hown, hrz, HSN, HDS, HPO, hb⟩ := hrel
        have x0' := cell_carry hb x0
        have x1' := cell_carry hb x1
        by_cases hlb : b < M
        · have kb : (b : Int) < (M : Int) := by omega
          have hv := h.below hb
          have KB2 := Lib.hid (KB.out (a : Int) (b : Int) wr hv)
          have zl : Z.length ≤ 60 := by
            have h1 := congrArg List.length HSN.out
            rw [List.length_map, sortedR_len] at h1
            have := metP_len (vs := vs) M5 ha hbM
            omega
          cases hbt : beatsP vs (a : Int) (b : Int)
          · rw [hbt] at KB2
            have HSN2 : Hid (Z.map Prod.snd = sortedR (keyR vs) (metP vs M a (b + 1))) := by show _ = _; rw [metP_no hbt]; exact HSN.out
            clear HSN hbt
            go_wp2_with fail
            (with_reducible refine KB2.out.mono ?_)
            rintro e w5 ⟨rfl, b5⟩
            have hb5 := hb.trans (b5.mono hb.size)
            have ho5 := ownsRow_below hown b5
            have hr5 := (hrz.belowW b5).mono b5.size
            clear KB2 hown hrz hb b5 x0' x1'
            go_wp2
            go_roundw
            case rel => exact ⟨b + 1, Z, _, c1, by omega, by go_num, rfl, ⟨_, rfl⟩, ho5, hr5, HSN2, HDS, HPO, hb5⟩
            case measure => simp [intOf]; omega
          · rw [hbt] at KB2
            have HSN2 : Hid (∀ v, (insK (fun p => keyR vs p.2) Z (v, pairG a b)).map Prod.snd = sortedR (keyR vs) (metP vs M a (b + 1))) := fun v => by
              rw [metP_yes hbt]; exact sortedR_add v HSN.out
            clear HSN hbt
            go_wp2_with fail
            (with_reducible refine KB2.out.mono ?_)
            rintro e w5 ⟨rfl, b5⟩
            have hb5 := hb.trans (b5.mono hb.size)
            have ho5 := ownsRow_below hown b5
            have hr5 := (hrz.belowW b5).mono b5.size
            clear KB2 hown hrz hb b5 x0' x1' hv
            go_wp2
            go_loopw [6] (fun k_ wr => ∃ k : Nat, k ≤ Z.length ∧ k_ = .int .i64 k ∧ Hid (∀ j, j < k → keyR vs (pairG a b) ≤ keyR vs (gz Z j).2) ∧ Below w5.heap.size w5 wr) (fun k_ _ => Z.length - (intOf k_).toNat)
            case atStart => exact ⟨0, Nat.zero_le _, rfl, (fun j hj => by omega), Below.refl _ _⟩
            case round =>
              obtain ⟨k, hk, rfl, HK, hbk⟩ := hrel
              have hbt := hb5.trans (hbk.mono hb5.size)
              have x0' := cell_carry hbt x0
              have x1' := cell_carry hbt x1
              have hv := h.below hbt
              have ia : inB (a : Int) 0 ((M : Int) - 1) = true := by rw [inB_iff]; omega
              have ib : inB (b : Int) 0 ((M : Int) - 1) = true := by rw [inB_iff]; omega
              have K2 : Hid (∀ L : Later wr, Calls Tryz.prog 236 #[.agg #[.int .i64 (M : Int), .slice A vs.length c], .int .i64 (a : Int), .int .i64 (b : Int)] L.W fun e W' => e = .returned (.int .i64 (keyR vs (pairG a b))) ∧ ∃ L' : Later wr, W' = L'.W) :=
                fun L => L.call (KM.out (a : Int) (b : Int) ia ib L.W (hv.below L.h))
              have p0 : ∀ L : Later wr, L.W.cell? ⟨w.heap.size, 0, none⟩ = some (.int .i64 (M : Int)) := fun L => L.cell x0'
              have p1 : ∀ L : Later wr, L.W.cell? ⟨w.heap.size, 1, none⟩ = some (.slice A vs.length c) := fun L => L.cell x1'
              clear ia ib
              by_cases hkn : k < Z.length
              · have hx := HPO.out _ (gz_mem hkn)
                have ox := (hr5.belowW hbk).1 _ (gz_mem hkn)
                have own5' := ownsRow_below ho5 hbk
                have ck := World.ownsRow.cellAt own5' k (by omega)
                rw [gz_map hkn] at ck
                have HGO : Hid (keyR vs (pairG a b) ≤ keyR vs (gz Z k).2 → ∀ j, j < k + 1 → keyR vs (pairG a b) ≤ keyR vs (gz Z j).2) := fun hh j hj => by
                  by_cases e : j = k
                  · subst e; exact hh
                  · exact HK.out j (by omega)
                have HST : Hid (¬ keyR vs (pairG a b) ≤ keyR vs (gz Z k).2 → keyR vs (gz Z k).2 < keyR vs (pairG a b)) := fun hh => by omega
                have KM1 : Hid (∀ L : Later wr, Calls Tryz.prog 236 #[.agg #[.int .i64 (M : Int), .slice A vs.length c], .int .i64 (ix (gz Z k).2 0), .int .i64 (ix (gz Z k).2 1)] L.W fun e W' => e = .returned (.int .i64 (keyR vs (gz Z k).2)) ∧ ∃ L' : Later wr, W' = L'.W) :=
                  fun L => L.call (KM.out (ix (gz Z k).2 0) (ix (gz Z k).2 1) (by rw [inB_iff]; have := hx.2; omega) (by rw [inB_iff]; have := hx.2; omega) L.W (hv.below L.h))
                generalize hgz : gz Z k = x at *
                have HGZ := Lib.hid hgz
                clear hgz
                obtain ⟨xv, xr⟩ := x
                obtain ⟨Ax, cx, ex, hcx⟩ := ox.len
                simp only at ex hx KM1 HGO HST ck ox
                subst ex
                have l2 := hx.1
                have oq2 := ox.at_
                obtain ⟨bx, oo, rfl, _, hcx2⟩ := oq2.at_ (show 0 < xr.length by omega)
                have d0 := hcx2 0 (by omega)
                have d1 := hcx2 1 (by omega)
                rw [Nat.add_zero] at d0
                have q0 : ∀ L : Later wr, L.W.cell? ⟨bx, oo, none⟩ = some (.int .i64 (ix xr 0)) := fun L => L.cell d0
                have q1 : ∀ L : Later wr, L.W.cell? ⟨bx, oo + 1, none⟩ = some (.int .i64 (ix xr 1)) := fun L => L.cell d1
                have q2 : ∀ L : Later wr, L.W.cell? ⟨gg, k, none⟩ = some (.slice (some ⟨bx, oo, none⟩) xr.length cx) := fun L => L.cell ck
                have i0 : (0 : Int) < (xr.length : Int) := by omega
                have i1 : (1 : Int) < (xr.length : Int) := by omega
                have i2 : (k : Int) < (Z.length : Int) := by omega
                clear l2 hx oq2 hcx2 d0 d1 ck own5' ox hv hbt x0' x1'
                generalize ix xr 0 = X0 at *
                generalize ix xr 1 = X1 at *
                generalize hkx : keyR vs xr = kx at *
                have HKX : Hid (keyR vs (gz Z k).2 = kx) := by show _ = _; rw [HGZ.out]; exact hkx
                clear hkx
                generalize hky : keyR vs (pairG a b) = ky at *
                have HKY := Lib.hid hky
                clear hky
                by_cases hle : ky ≤ kx
                · have t0 : decide (ky ≤ kx) = true := decide_eq_true hle
                  go_upto_region 10 with fail
                  refine wp_region_later (by kernel_rfl) (by kernel_rfl) ?_
                  repeat (go_big_quiet_step (first | (with_reducible exact KM1.out _) | (with_reducible exact K2.out _)))
                  (refine wpQuiet_nil ?_; rintro wl ⟨L_, hwl_⟩; have hbl := L_.h; rw [← hwl_] at hbl; clear hwl_ L_)
                  have hbk2 := hbk.trans (hbl.mono hbk.size)
                  clear q0 q1 q2 p0 p1 K2 KM1 hbk hbl
                  go_wp2
                  go_roundw
                  case rel => exact ⟨k + 1, by omega, by go_num, HGO.out hle, hbk2⟩
                  case measure => simp [intOf]; omega
                · have t0 : decide (ky ≤ kx) = false := decide_eq_false hle
                  have HST2 := Lib.hid (HST.out hle)
                  clear hle
                  go_upto_region 10 with fail
                  refine wp_region_later (by kernel_rfl) (by kernel_rfl) ?_
                  repeat (go_big_quiet_step (first | (with_reducible exact KM1.out _) | (with_reducible exact K2.out _)))
                  (refine wpQuiet_nil ?_; rintro wl ⟨L_, hwl_⟩; have hbl := L_.h; rw [← hwl_] at hbl; clear hwl_ L_)
                  clear q0 q1 q2 p0 p1 K2 KM1 HGO HST t0
                  have HKLE : Hid (∀ j, j < k → keyR vs (pairG a b) ≤ keyR vs (gz Z j).2) := by rw [HKY.out]; exact HK
                  have HKST : Hid (k = Z.length ∨ keyR vs (gz Z k).2 < keyR vs (pairG a b)) := by rw [HKY.out]; exact .inr (by rw [HKX.out]; exact HST2.out)
                  obtain ⟨us, hus⟩ : ∃ us, Z.map Prod.fst = us := ⟨_, rfl⟩
                  obtain ⟨ys, hys⟩ : ∃ ys, Z.map Prod.snd = ys := ⟨_, rfl⟩
                  have HUS := Lib.hid hus
                  have HYS := Lib.hid hys
                  clear hus hys
                  have hb6 := hb5.trans ((hbk.trans (hbl.mono hbk.size)).mono hb5.size)
                  have own6 := ownsRow_below (ownsRow_below ho5 hbk) hbl
                  have rz6 := ((hr5.belowW hbk).belowW hbl).mono (Nat.le_trans hbk.size hbl.size)
                  have z6 := hb6.size
                  obtain ⟨cc1, gl, gs, vl⟩ := ownsRow_formZ own6
                  have b7 := alloc_below wl (.cells #[] 27)
                  have e7 := World.size_alloc wl (.cells #[] 27)
                  have r7 : (wl.alloc (.cells #[] 27)).ownsRow w0.heap.size 27 1 (.slice (some ⟨wl.heap.size, 0, none⟩) 0 0) 0 [] := World.ownsRow_lit (e := 27) (size := 1) (base := w0.heap.size) wl #[] 0 z6 (by unfold maxLen; omega) rfl
                  have own7 := ownsRow_below own6 b7
                  have rz7 := rz6.belowW b7
                  have hb7 := hb6.trans (b7.mono z6)
                  have HC7 : Hid (∀ j, j < k → ∃ b o, (some ⟨gg, 0, none⟩ : Option Addr) = some ⟨b, o, none⟩ ∧ (wl.alloc (.cells #[] 27)).cell? ⟨b, o + j, none⟩ = (us.take k)[j]?) := fun j hj => ⟨gg, 0, rfl, by
                    rw [Nat.zero_add, List.getElem?_take_of_lt hj, ← HUS.out]
                    exact World.ownsRow.cellAt own7 j (by omega)⟩
                  have HV7 : Hid (RowsV (wl.alloc (.cells #[] 27)) w0.heap.size wl.heap.size ([] ++ us.take k) (ys.take k)) := by
                    have h1 := (rz7.sub (List.take_sublist k Z)).toV
                    rw [List.map_take, List.map_take, HUS.out, HYS.out] at h1
                    exact h1
                  have HL7 : Hid ((us.take k).length = k) := by show _ = _; rw [List.length_take, ← HUS.out, List.length_map]; omega
                  have k1 : (0 : Int) ≤ (k : Int) := by omega
                  have k2 : (k : Int) ≤ (c1 : Int) := by omega
                  have k3 : (k : Int) ≤ (Z.length : Int) := by omega
                  clear b7 rz6 own6 hb6 hbl hbk ho5 hr5 hb5
                  go_wp2_with (at_builtin; refine wpList_append_rowsV _ rfl _ _ rfl w0.heap.size 0 0 _ [] rfl r7 (some ⟨gg, 0, none⟩) k c1 (us.take k) (ys.take k) w0.heap.size wl.heap.size rfl HC7.out HV7.out HL7.out (by omega) (by omega) ?_)
                  intro A8 c8 w8 o8 v8 g8 hat8
                  have HNE : Hid (∀ j, (Value.slice A8 k c8).ownBlock = some j → wl.heap.size ≤ j) := by
                    intro j e
                    rcases hat8 with h | h
                    · (try rw [Nat.zero_add] at h); rw [h] at e; first | (have := Option.some.inj e; omega) | (simp [Value.ownBlock] at e; omega)
                    · (try rw [Nat.zero_add] at h); rw [h] at e; first | (have := Option.some.inj e; omega) | (simp [Value.ownBlock] at e; omega)
                  try rw [Nat.zero_add] at o8
                  have hb8 := below_of_below hb7 g8 (fun j e => (World.ownsRow.lt r7 j e).1)
                  have own8 := ownsRow_grownZ own7 g8 (fun j e => by simp [Value.ownBlock] at e ⊢; omega)
                  have rz8 := rz7.grown g8 (fun k ys e u ho => no_mix r7 ho e)
                  have z8 : wl.heap.size ≤ w8.heap.size := by have := g8.size; omega
                  clear r7 hat8 g8 v8 hb7 HC7 HV7 own7 rz7
                  have b9 := (alloc_below w8 (.cells #[.int .i64 (a : Int), .int .i64 (b : Int)] 3))
                  have b10 := (alloc_below (w8.alloc (.cells #[.int .i64 (a : Int), .int .i64 (b : Int)] 3)) (.cells #[.slice (some ⟨w8.heap.size, 0, none⟩) 2 2] 27))
                  have z9 := World.size_alloc w8 (.cells #[.int .i64 (a : Int), .int .i64 (b : Int)] 3)
                  have z10 := World.size_alloc (w8.alloc (.cells #[.int .i64 (a : Int), .int .i64 (b : Int)] 3)) (.cells #[.slice (some ⟨w8.heap.size, 0, none⟩) 2 2] 27)
                  have o10 := ownsRow_below (ownsRow_below o8 b9) b10
                  have own10 := ownsRow_below (ownsRow_below own8 b9) b10
                  have rz10 := (((rz8.belowW b9).belowW b10).snoc (x := ((.slice (some ⟨w8.heap.size, 0, none⟩) 2 2 : Value), pairG a b)) ((OwnI.lit2 w8 (a : Int) (b : Int)).alloc _) z8 (by omega) (by omega)).perm (ins_perm Z _ k)
                  have hb10 := hb8.trans ((b9.mono (by omega)).trans (b10.mono (by omega)))
                  have hc10 := new_cell (w8.alloc (.cells #[.int .i64 (a : Int), .int .i64 (b : Int)] 3)) (.slice (some ⟨w8.heap.size, 0, none⟩) 2 2) 27 (g := w8.heap.size + 1) (by omega)
                  clear b9 b10 o8 own8 rz8 hb8
                  have HC10 : Hid (∀ j, j < 1 → ∃ b' o', (some ⟨w8.heap.size + 1, 0, none⟩ : Option Addr) = some ⟨b', o', none⟩ ∧ ((w8.alloc (.cells #[.int .i64 (a : Int), .int .i64 (b : Int)] 3)).alloc (.cells #[.slice (some ⟨w8.heap.size, 0, none⟩) 2 2] 27)).cell? ⟨b', o' + j, none⟩ = [Value.slice (some ⟨w8.heap.size, 0, none⟩) 2 2][j]?) := by
                    intro j hj
                    obtain rfl : j = 0 := by omega
                    exact ⟨w8.heap.size + 1, 0, rfl, hc10⟩
                  have HV10 : Hid (RowsV ((w8.alloc (.cells #[.int .i64 (a : Int), .int .i64 (b : Int)] 3)).alloc (.cells #[.slice (some ⟨w8.heap.size, 0, none⟩) 2 2] 27)) w0.heap.size (w8.heap.size + 1) ([] ++ us.take k ++ [Value.slice (some ⟨w8.heap.size, 0, none⟩) 2 2]) (ys.take k ++ [pairG a b])) := by
                    have h1 := (rz10.sub (show (Z.take k ++ [((.slice (some ⟨w8.heap.size, 0, none⟩) 2 2 : Value), pairG a b)]).Sublist _ from (List.Sublist.refl _).append ((List.nil_sublist _).cons_cons _))).toV
                    rw [List.map_append (f := Prod.fst), List.map_append (f := Prod.snd), List.map_take, List.map_take, HUS.out, HYS.out] at h1
                    exact h1
                  generalize hw10 : (w8.alloc (.cells #[.int .i64 (a : Int), .int .i64 (b : Int)] 3)).alloc (.cells #[.slice (some ⟨w8.heap.size, 0, none⟩) 2 2] 27) = w10 at *
                  clear hc10
                  go_wp2_with (at_builtin; refine wpList_append_rowsV _ rfl _ _ rfl w0.heap.size k c8 A8 ([] ++ us.take k) rfl o10 (some ⟨w8.heap.size + 1, 0, none⟩) 1 1 [Value.slice (some ⟨w8.heap.size, 0, none⟩) 2 2] _ w0.heap.size (w8.heap.size + 1) rfl HC10.out HV10.out rfl (by omega) (by omega) ?_)
                  intro A11 c11 w11 o11 v11 g11 hat11
                  have own11 := ownsRow_grownZ own10 g11 (fun j e => by have := HNE.out j e; simp [Value.ownBlock]; omega)
                  have rz11 := rz10.grown g11 (fun k ys e u ho => no_mix o10 ho e)
                  have hb11 := below_of_below hb10 g11 (fun j e => (World.ownsRow.lt o10 j e).1)
                  have HV11 : Hid (RowsV w11 w0.heap.size (w8.heap.size + 1) ([] ++ us.take k ++ [Value.slice (some ⟨w8.heap.size, 0, none⟩) 2 2] ++ us.drop k) (ys.take k ++ [pairG a b] ++ ys.drop k)) := by
                    have h1 := rz11.toV
                    rw [List.map_append (f := Prod.fst), List.map_append (f := Prod.snd), List.map_cons, List.map_cons, List.map_take, List.map_take, List.map_drop, List.map_drop, HUS.out, HYS.out] at h1
                    show RowsV _ _ _ _ _
                    simpa using h1
                  have z11 := hb11.size
                  have z12 := g11.size
                  have HDL : Hid ((us.drop k).length = Z.length - k) := by show _ = _; rw [List.length_drop, ← HUS.out, List.length_map]
                  have HKI : Hid (k + 1 + (Z.length - k) = (Z.take k ++ ((.slice (some ⟨w8.heap.size, 0, none⟩) 2 2 : Value), pairG a b) :: Z.drop k).length) := by show _ = _; simp; omega
                  have HFS : Hid ((Z.take k ++ ((.slice (some ⟨w8.heap.size, 0, none⟩) 2 2 : Value), pairG a b) :: Z.drop k).map Prod.fst = us.take k ++ Value.slice (some ⟨w8.heap.size, 0, none⟩) 2 2 :: us.drop k) := by
                    show _ = _
                    rw [List.map_append, List.map_cons, List.map_take, List.map_drop, HUS.out]
                  have h45 := ins_step (.slice (some ⟨w8.heap.size, 0, none⟩) 2 2) HSN2.out HDS.out hk HKLE.out HKST.out
                  have HSD := Lib.hid h45.1
                  have HDE := Lib.hid h45.2
                  have HPN := Lib.hid (ins_ok (x := ((.slice (some ⟨w8.heap.size, 0, none⟩) 2 2 : Value), pairG a b)) (k := k) HPO.out (pairG_ok hla hlb))
                  clear h45
                  have hcells : ∀ j, j < Z.length → w11.cell? ⟨gg, j, none⟩ = us[j]? := fun j hj => by rw [← HUS.out]; exact World.ownsRow.cellAt own11 j (by omega)
                  generalize Z.take k ++ ((.slice (some ⟨w8.heap.size, 0, none⟩) 2 2 : Value), pairG a b) :: Z.drop k = Z2 at *
                  clear hat11 g11 v11 o10 own10 hb10 HC10 HV10 HNE HSN2 HDS HPO HKLE HKST rz10 own11
                  by_cases hcap : c1 = k
                  · have HCV : Hid (∀ j, j < Z.length - k → ∃ b o, (some ⟨gg, 0, none⟩ : Option Addr) = some ⟨b, o, none⟩ ∧ w11.cell? ⟨b, o + j, none⟩ = (us.drop k)[j]?) := fun j hj => by omega
                    clear hcells
                    go_wp2_with (at_builtin; refine wpList_append_rowsV _ rfl _ _ rfl w0.heap.size (k + 1) c11 A11 ([] ++ us.take k ++ [Value.slice (some ⟨w8.heap.size, 0, none⟩) 2 2]) rfl o11 (some ⟨gg, 0, none⟩) (Z.length - k) (c1 - k) (us.drop k) _ w0.heap.size (w8.heap.size + 1) (by simp [Act.eval, Act.put, hcap]) HCV.out HV11.out HDL.out (by omega) (by omega) ?_)
                    intro A13 c13 w13 o13 v13 g13 hat13
                    have rz13 := (rz11.grown g13 (fun k ys e u ho => no_mix o11 ho e)).mono (show w8.heap.size + 1 ≤ w13.heap.size by have := g13.size; omega)
                    have hb13 := below_of_below hb11 g13 (fun j e => (World.ownsRow.lt o11 j e).1)
                    have o14 : w13.ownsRow w0.heap.size 27 1 (.slice A13 Z2.length c13) Z2.length (Z2.map Prod.fst) := by
                      rw [HFS.out, ← HKI.out]; simpa using o13
                    obtain ⟨gn, hgn⟩ := ownsRow_some' o14 (by rw [← HKI.out]; omega)
                    have HGN := Lib.hid hgn
                    clear hat13 g13 v13 o11 o13 hb11 HV11 HCV hgn rz11 hcap
                    go_wp2
                    go_roundw
                    case rel => first | exact ⟨b + 1, Z2, _, c13, by omega, by go_num, by rw [← HKI.out], ⟨gn, HGN.out⟩, o14, rz13, HSD, HDE, HPN, hb13⟩ | ((repeat apply Exists.intro); exact ⟨⟨b + 1, Z2, _, c13, by omega, by go_num, by rw [← HKI.out], ⟨gn, HGN.out⟩, o14, rz13, HSD, HDE, HPN, hb13⟩, rfl⟩)
                    case measure => simp [intOf]; omega
                  · have HCV : Hid (∀ j, j < Z.length - k → ∃ b o, (some ⟨gg, k, none⟩ : Option Addr) = some ⟨b, o, none⟩ ∧ w11.cell? ⟨b, o + j, none⟩ = (us.drop k)[j]?) := fun j hj => ⟨gg, k, rfl, by rw [List.getElem?_drop]; exact hcells (k + j) (by omega)⟩
                    have hcap2 : ¬ (k = c1) := fun e => hcap e.symm
                    clear hcells
                    go_wp2_with (at_builtin; refine wpList_append_rowsV _ rfl _ _ rfl w0.heap.size (k + 1) c11 A11 ([] ++ us.take k ++ [Value.slice (some ⟨w8.heap.size, 0, none⟩) 2 2]) rfl o11 (some ⟨gg, k, none⟩) (Z.length - k) (c1 - k) (us.drop k) _ w0.heap.size (w8.heap.size + 1) (by simp [Act.eval, Act.put, hcap]) HCV.out HV11.out HDL.out (by omega) (by omega) ?_)
                    intro A13 c13 w13 o13 v13 g13 hat13
                    have rz13 := (rz11.grown g13 (fun k ys e u ho => no_mix o11 ho e)).mono (show w8.heap.size + 1 ≤ w13.heap.size by have := g13.size; omega)
                    have hb13 := below_of_below hb11 g13 (fun j e => (World.ownsRow.lt o11 j e).1)
                    have o14 : w13.ownsRow w0.heap.size 27 1 (.slice A13 Z2.length c13) Z2.length (Z2.map Prod.fst) := by
                      rw [HFS.out, ← HKI.out]; simpa using o13
                    obtain ⟨gn, hgn⟩ := ownsRow_some' o14 (by rw [← HKI.out]; omega)
                    have HGN := Lib.hid hgn
                    clear hat13 g13 v13 o11 o13 hb11 HV11 HCV hgn rz11 hcap
                    go_wp2
                    go_roundw
                    case rel => first | exact ⟨b + 1, Z2, _, c13, by omega, by go_num, by rw [← HKI.out], ⟨gn, HGN.out⟩, o14, rz13, HSD, HDE, HPN, hb13⟩ | ((repeat apply Exists.intro); exact ⟨⟨b + 1, Z2, _, c13, by omega, by go_num, by rw [← HKI.out], ⟨gn, HGN.out⟩, o14, rz13, HSD, HDE, HPN, hb13⟩, rfl⟩)
                    case measure => simp [intOf]; omega
              · have hkz : k = Z.length := by omega
                have HKLE := HK
                have HKST : Hid (k = Z.length ∨ keyR vs (gz Z k).2 < keyR vs (pairG a b)) := .inl hkz
                have i2 : ¬ (k : Int) < (Z.length : Int) := by omega
                go_upto_region 10 with fail
                refine wp_region_later (by kernel_rfl) (by kernel_rfl) ?_
                repeat (go_big_quiet_step (fail))
                (refine wpQuiet_nil ?_; rintro wl ⟨L_, hwl_⟩; have hbl := L_.h; rw [← hwl_] at hbl; clear hwl_ L_)
                clear p0 p1 K2 hv hbt x0' x1' hkz i2
                obtain ⟨us, hus⟩ : ∃ us, Z.map Prod.fst = us := ⟨_, rfl⟩
                obtain ⟨ys, hys⟩ : ∃ ys, Z.map Prod.snd = ys := ⟨_, rfl⟩
                have HUS := Lib.hid hus
                have HYS := Lib.hid hys
                clear hus hys
                have hb6 := hb5.trans ((hbk.trans (hbl.mono hbk.size)).mono hb5.size)
                have own6 := ownsRow_below (ownsRow_below ho5 hbk) hbl
                have rz6 := ((hr5.belowW hbk).belowW hbl).mono (Nat.le_trans hbk.size hbl.size)
                have z6 := hb6.size
                obtain ⟨cc1, gl, gs, vl⟩ := ownsRow_formZ own6
                have b7 := alloc_below wl (.cells #[] 27)
                have e7 := World.size_alloc wl (.cells #[] 27)
                have r7 : (wl.alloc (.cells #[] 27)).ownsRow w0.heap.size 27 1 (.slice (some ⟨wl.heap.size, 0, none⟩) 0 0) 0 [] := World.ownsRow_lit (e := 27) (size := 1) (base := w0.heap.size) wl #[] 0 z6 (by unfold maxLen; omega) rfl
                have own7 := ownsRow_below own6 b7
                have rz7 := rz6.belowW b7
                have hb7 := hb6.trans (b7.mono z6)
                have HC7 : Hid (∀ j, j < k → ∃ b o, (some ⟨gg, 0, none⟩ : Option Addr) = some ⟨b, o, none⟩ ∧ (wl.alloc (.cells #[] 27)).cell? ⟨b, o + j, none⟩ = (us.take k)[j]?) := fun j hj => ⟨gg, 0, rfl, by
                  rw [Nat.zero_add, List.getElem?_take_of_lt hj, ← HUS.out]
                  exact World.ownsRow.cellAt own7 j (by omega)⟩
                have HV7 : Hid (RowsV (wl.alloc (.cells #[] 27)) w0.heap.size wl.heap.size ([] ++ us.take k) (ys.take k)) := by
                  have h1 := (rz7.sub (List.take_sublist k Z)).toV
                  rw [List.map_take, List.map_take, HUS.out, HYS.out] at h1
                  exact h1
                have HL7 : Hid ((us.take k).length = k) := by show _ = _; rw [List.length_take, ← HUS.out, List.length_map]; omega
                have k1 : (0 : Int) ≤ (k : Int) := by omega
                have k2 : (k : Int) ≤ (c1 : Int) := by omega
                have k3 : (k : Int) ≤ (Z.length : Int) := by omega
                clear b7 rz6 own6 hb6 hbl hbk ho5 hr5 hb5
                go_wp2_with (at_builtin; refine wpList_append_rowsV _ rfl _ _ rfl w0.heap.size 0 0 _ [] rfl r7 (some ⟨gg, 0, none⟩) k c1 (us.take k) (ys.take k) w0.heap.size wl.heap.size rfl HC7.out HV7.out HL7.out (by omega) (by omega) ?_)
                intro A8 c8 w8 o8 v8 g8 hat8
                have HNE : Hid (∀ j, (Value.slice A8 k c8).ownBlock = some j → wl.heap.size ≤ j) := by
                  intro j e
                  rcases hat8 with h | h
                  · (try rw [Nat.zero_add] at h); rw [h] at e; first | (have := Option.some.inj e; omega) | (simp [Value.ownBlock] at e; omega)
                  · (try rw [Nat.zero_add] at h); rw [h] at e; first | (have := Option.some.inj e; omega) | (simp [Value.ownBlock] at e; omega)
                try rw [Nat.zero_add] at o8
                have hb8 := below_of_below hb7 g8 (fun j e => (World.ownsRow.lt r7 j e).1)
                have own8 := ownsRow_grownZ own7 g8 (fun j e => by simp [Value.ownBlock] at e ⊢; omega)
                have rz8 := rz7.grown g8 (fun k ys e u ho => no_mix r7 ho e)
                have z8 : wl.heap.size ≤ w8.heap.size := by have := g8.size; omega
                clear r7 hat8 g8 v8 hb7 HC7 HV7 own7 rz7
                have b9 := (alloc_below w8 (.cells #[.int .i64 (a : Int), .int .i64 (b : Int)] 3))
                have b10 := (alloc_below (w8.alloc (.cells #[.int .i64 (a : Int), .int .i64 (b : Int)] 3)) (.cells #[.slice (some ⟨w8.heap.size, 0, none⟩) 2 2] 27))
                have z9 := World.size_alloc w8 (.cells #[.int .i64 (a : Int), .int .i64 (b : Int)] 3)
                have z10 := World.size_alloc (w8.alloc (.cells #[.int .i64 (a : Int), .int .i64 (b : Int)] 3)) (.cells #[.slice (some ⟨w8.heap.size, 0, none⟩) 2 2] 27)
                have o10 := ownsRow_below (ownsRow_below o8 b9) b10
                have own10 := ownsRow_below (ownsRow_below own8 b9) b10
                have rz10 := (((rz8.belowW b9).belowW b10).snoc (x := ((.slice (some ⟨w8.heap.size, 0, none⟩) 2 2 : Value), pairG a b)) ((OwnI.lit2 w8 (a : Int) (b : Int)).alloc _) z8 (by omega) (by omega)).perm (ins_perm Z _ k)
                have hb10 := hb8.trans ((b9.mono (by omega)).trans (b10.mono (by omega)))
                have hc10 := new_cell (w8.alloc (.cells #[.int .i64 (a : Int), .int .i64 (b : Int)] 3)) (.slice (some ⟨w8.heap.size, 0, none⟩) 2 2) 27 (g := w8.heap.size + 1) (by omega)
                clear b9 b10 o8 own8 rz8 hb8
                have HC10 : Hid (∀ j, j < 1 → ∃ b' o', (some ⟨w8.heap.size + 1, 0, none⟩ : Option Addr) = some ⟨b', o', none⟩ ∧ ((w8.alloc (.cells #[.int .i64 (a : Int), .int .i64 (b : Int)] 3)).alloc (.cells #[.slice (some ⟨w8.heap.size, 0, none⟩) 2 2] 27)).cell? ⟨b', o' + j, none⟩ = [Value.slice (some ⟨w8.heap.size, 0, none⟩) 2 2][j]?) := by
                  intro j hj
                  obtain rfl : j = 0 := by omega
                  exact ⟨w8.heap.size + 1, 0, rfl, hc10⟩
                have HV10 : Hid (RowsV ((w8.alloc (.cells #[.int .i64 (a : Int), .int .i64 (b : Int)] 3)).alloc (.cells #[.slice (some ⟨w8.heap.size, 0, none⟩) 2 2] 27)) w0.heap.size (w8.heap.size + 1) ([] ++ us.take k ++ [Value.slice (some ⟨w8.heap.size, 0, none⟩) 2 2]) (ys.take k ++ [pairG a b])) := by
                  have h1 := (rz10.sub (show (Z.take k ++ [((.slice (some ⟨w8.heap.size, 0, none⟩) 2 2 : Value), pairG a b)]).Sublist _ from (List.Sublist.refl _).append ((List.nil_sublist _).cons_cons _))).toV
                  rw [List.map_append (f := Prod.fst), List.map_append (f := Prod.snd), List.map_take, List.map_take, HUS.out, HYS.out] at h1
                  exact h1
                generalize hw10 : (w8.alloc (.cells #[.int .i64 (a : Int), .int .i64 (b : Int)] 3)).alloc (.cells #[.slice (some ⟨w8.heap.size, 0, none⟩) 2 2] 27) = w10 at *
                clear hc10
                go_wp2_with (at_builtin; refine wpList_append_rowsV _ rfl _ _ rfl w0.heap.size k c8 A8 ([] ++ us.take k) rfl o10 (some ⟨w8.heap.size + 1, 0, none⟩) 1 1 [Value.slice (some ⟨w8.heap.size, 0, none⟩) 2 2] _ w0.heap.size (w8.heap.size + 1) rfl HC10.out HV10.out rfl (by omega) (by omega) ?_)
                intro A11 c11 w11 o11 v11 g11 hat11
                have own11 := ownsRow_grownZ own10 g11 (fun j e => by have := HNE.out j e; simp [Value.ownBlock]; omega)
                have rz11 := rz10.grown g11 (fun k ys e u ho => no_mix o10 ho e)
                have hb11 := below_of_below hb10 g11 (fun j e => (World.ownsRow.lt o10 j e).1)
                have HV11 : Hid (RowsV w11 w0.heap.size (w8.heap.size + 1) ([] ++ us.take k ++ [Value.slice (some ⟨w8.heap.size, 0, none⟩) 2 2] ++ us.drop k) (ys.take k ++ [pairG a b] ++ ys.drop k)) := by
                  have h1 := rz11.toV
                  rw [List.map_append (f := Prod.fst), List.map_append (f := Prod.snd), List.map_cons, List.map_cons, List.map_take, List.map_take, List.map_drop, List.map_drop, HUS.out, HYS.out] at h1
                  show RowsV _ _ _ _ _
                  simpa using h1
                have z11 := hb11.size
                have z12 := g11.size
                have HDL : Hid ((us.drop k).length = Z.length - k) := by show _ = _; rw [List.length_drop, ← HUS.out, List.length_map]
                have HKI : Hid (k + 1 + (Z.length - k) = (Z.take k ++ ((.slice (some ⟨w8.heap.size, 0, none⟩) 2 2 : Value), pairG a b) :: Z.drop k).length) := by show _ = _; simp; omega
                have HFS : Hid ((Z.take k ++ ((.slice (some ⟨w8.heap.size, 0, none⟩) 2 2 : Value), pairG a b) :: Z.drop k).map Prod.fst = us.take k ++ Value.slice (some ⟨w8.heap.size, 0, none⟩) 2 2 :: us.drop k) := by
                  show _ = _
                  rw [List.map_append, List.map_cons, List.map_take, List.map_drop, HUS.out]
                have h45 := ins_step (.slice (some ⟨w8.heap.size, 0, none⟩) 2 2) HSN2.out HDS.out hk HKLE.out HKST.out
                have HSD := Lib.hid h45.1
                have HDE := Lib.hid h45.2
                have HPN := Lib.hid (ins_ok (x := ((.slice (some ⟨w8.heap.size, 0, none⟩) 2 2 : Value), pairG a b)) (k := k) HPO.out (pairG_ok hla hlb))
                clear h45
                have hcells : ∀ j, j < Z.length → w11.cell? ⟨gg, j, none⟩ = us[j]? := fun j hj => by rw [← HUS.out]; exact World.ownsRow.cellAt own11 j (by omega)
                generalize Z.take k ++ ((.slice (some ⟨w8.heap.size, 0, none⟩) 2 2 : Value), pairG a b) :: Z.drop k = Z2 at *
                clear hat11 g11 v11 o10 own10 hb10 HC10 HV10 HNE HSN2 HDS HPO HKLE HKST rz10 own11
                by_cases hcap : c1 = k
                · have HCV : Hid (∀ j, j < Z.length - k → ∃ b o, (some ⟨gg, 0, none⟩ : Option Addr) = some ⟨b, o, none⟩ ∧ w11.cell? ⟨b, o + j, none⟩ = (us.drop k)[j]?) := fun j hj => by omega
                  clear hcells
                  go_wp2_with (at_builtin; refine wpList_append_rowsV _ rfl _ _ rfl w0.heap.size (k + 1) c11 A11 ([] ++ us.take k ++ [Value.slice (some ⟨w8.heap.size, 0, none⟩) 2 2]) rfl o11 (some ⟨gg, 0, none⟩) (Z.length - k) (c1 - k) (us.drop k) _ w0.heap.size (w8.heap.size + 1) (by simp [Act.eval, Act.put, hcap]) HCV.out HV11.out HDL.out (by omega) (by omega) ?_)
                  intro A13 c13 w13 o13 v13 g13 hat13
                  have rz13 := (rz11.grown g13 (fun k ys e u ho => no_mix o11 ho e)).mono (show w8.heap.size + 1 ≤ w13.heap.size by have := g13.size; omega)
                  have hb13 := below_of_below hb11 g13 (fun j e => (World.ownsRow.lt o11 j e).1)
                  have o14 : w13.ownsRow w0.heap.size 27 1 (.slice A13 Z2.length c13) Z2.length (Z2.map Prod.fst) := by
                    rw [HFS.out, ← HKI.out]; simpa using o13
                  obtain ⟨gn, hgn⟩ := ownsRow_some' o14 (by rw [← HKI.out]; omega)
                  have HGN := Lib.hid hgn
                  clear hat13 g13 v13 o11 o13 hb11 HV11 HCV hgn rz11 hcap
                  go_wp2
                  go_roundw
                  case rel => first | exact ⟨b + 1, Z2, _, c13, by omega, by go_num, by rw [← HKI.out], ⟨gn, HGN.out⟩, o14, rz13, HSD, HDE, HPN, hb13⟩ | ((repeat apply Exists.intro); exact ⟨⟨b + 1, Z2, _, c13, by omega, by go_num, by rw [← HKI.out], ⟨gn, HGN.out⟩, o14, rz13, HSD, HDE, HPN, hb13⟩, rfl⟩)
                  case measure => simp [intOf]; omega
                · have HCV : Hid (∀ j, j < Z.length - k → ∃ b o, (some ⟨gg, k, none⟩ : Option Addr) = some ⟨b, o, none⟩ ∧ w11.cell? ⟨b, o + j, none⟩ = (us.drop k)[j]?) := fun j hj => ⟨gg, k, rfl, by rw [List.getElem?_drop]; exact hcells (k + j) (by omega)⟩
                  have hcap2 : ¬ (k = c1) := fun e => hcap e.symm
                  clear hcells
                  go_wp2_with (at_builtin; refine wpList_append_rowsV _ rfl _ _ rfl w0.heap.size (k + 1) c11 A11 ([] ++ us.take k ++ [Value.slice (some ⟨w8.heap.size, 0, none⟩) 2 2]) rfl o11 (some ⟨gg, k, none⟩) (Z.length - k) (c1 - k) (us.drop k) _ w0.heap.size (w8.heap.size + 1) (by simp [Act.eval, Act.put, hcap]) HCV.out HV11.out HDL.out (by omega) (by omega) ?_)
                  intro A13 c13 w13 o13 v13 g13 hat13
                  have rz13 := (rz11.grown g13 (fun k ys e u ho => no_mix o11 ho e)).mono (show w8.heap.size + 1 ≤ w13.heap.size by have := g13.size; omega)
                  have hb13 := below_of_below hb11 g13 (fun j e => (World.ownsRow.lt o11 j e).1)
                  have o14 : w13.ownsRow w0.heap.size 27 1 (.slice A13 Z2.length c13) Z2.length (Z2.map Prod.fst) := by
                    rw [HFS.out, ← HKI.out]; simpa using o13
                  obtain ⟨gn, hgn⟩ := ownsRow_some' o14 (by rw [← HKI.out]; omega)
                  have HGN := Lib.hid hgn
                  clear hat13 g13 v13 o11 o13 hb11 HV11 HCV hgn rz11 hcap
                  go_wp2
                  go_roundw
                  case rel => first | exact ⟨b + 1, Z2, _, c13, by omega, by go_num, by rw [← HKI.out], ⟨gn, HGN.out⟩, o14, rz13, HSD, HDE, HPN, hb13⟩ | ((repeat apply Exists.intro); exact ⟨⟨b + 1, Z2, _, c13, by omega, by go_num, by rw [← HKI.out], ⟨gn, HGN.out⟩, o14, rz13, HSD, HDE, HPN, hb13⟩, rfl⟩)
                  case measure => simp [intOf]; omega
        · obtain rfl : b = M := by omega
          rw [metP_row] at HSN
          go_wp2
          go_roundw
          case rel => exact ⟨a + 1, Z, _, c1, by omega, by go_num, rfl, ⟨_, rfl⟩, hown, hrz, HSN, HDS, HPO, hb⟩
          case measure => simp [intOf]; omega
    · obtain rfl : a = M := by omega
      rw [metP_all] at HSN
      have hB5 := hB.trans (hb.mono hB.size)
      have z5 := hB.size
      go_wp2
      go_ret
      exact ⟨_, _, Z, rfl, ownsRow_lo hown z5, (hrz.mono (Nat.le_refl _)).lo z5, HSN.out, hB5⟩
end Go.Proofs.YtaanppihgldeaaaGreatDoor
