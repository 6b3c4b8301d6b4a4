/- The pairs that block an entry: the program's side. -/
import Derived.Test.YtmakbndlobaaaaaEntryB
import Derived.Test.YtmakbndlobaaaaaHdrAp
import Derived.Test.YtmakbndlobaaaaaRegH
namespace Go.Proofs.Ytmakbndlobaaaaa
set_option linter.unusedVariables false
open Go.RowKit

theorem longs_no {sss : List (List Int)} {zs : List Int} {i k : Nat} (h : longsE sss zs i k = false) : 0 ≤ ix zs i ∧ pref (rx sss i) k (ix zs i) = false := by
  unfold longsE at h; rw [Bool.or_eq_false_iff, decide_eq_false_iff_not] at h; exact ⟨by omega, h.2⟩
theorem block_no1 {sss ccc : List (List Int)} {ps zs : List Int} {i k : Nat} (h : longsE sss zs i k = false) : blockE sss ccc ps zs i k = false := by unfold blockE; rw [h]; rfl
theorem block_2 {sss ccc : List (List Int)} {ps zs : List Int} {i k : Nat} (h : longsE sss zs i k = true) : blockE sss ccc ps zs i k = wantsE ccc ps zs k i := by unfold blockE; rw [h]; rfl
theorem wants_1 {ccc : List (List Int)} {ps zs : List Int} {i k : Nat} (h : ix (filledOf ccc zs) k < ix ps k) : wantsE ccc ps zs k i = true := by unfold wantsE; rw [decide_eq_true h]; rfl
theorem wants_2 {ccc : List (List Int)} {ps zs : List Int} {i k : Nat} (h : ¬ ix (filledOf ccc zs) k < ix ps k) : wantsE ccc ps zs k i = (upE zs.length).any (worseE ccc zs k i) := by unfold wantsE; rw [decide_eq_false h, upE_any]; rfl
set_option maxRecDepth 100000 in
set_option maxHeartbeats 4000000 in
theorem blocksE_any (A : Option Addr) (n c : Nat) (sss : List (List Int)) (B : Option Addr) (m d : Nat) (ccc : List (List Int)) (C : Option Addr) (l e : Nat) (ps : List Int) (D : Option Addr) (p r : Nat) (zs : List Int) (w : World) (h : RowsAt w A n sss)
    (g : RowsAt w B m ccc) (q : IntsAt w C l ps) (z : IntsAt w D p zs) (F : EntryF sss ccc ps zs) :
    Calls Try.prog 40 #[.agg #[.slice A n c, .slice B m d, .slice C l e], .slice D p r] w fun er w' => ∃ A' c', er = .returned (.slice A' (blocksE sss ccc ps zs).length c') ∧ Below w.heap.size w w' := by
  obtain rfl := h.len
  obtain rfl := g.len
  obtain rfl := q.len
  obtain rfl := z.len
  have FF := Lib.hid F
  have f1 := F.sch.n5
  have f2 := F.sch.c3
  have fz1 := Nat.le_of_eq F.zl
  have fz2 := Nat.le_of_eq F.zl.symm
  have fp1 := Nat.le_of_eq F.sch.pl
  have fp2 := Nat.le_of_eq F.sch.pl.symm
  have S0 := (SchAt.new h g q (c := c) (d := d) (e := e) 28).below ((Below.refl _ _).alloc (Nat.le_refl _) (.cells #[.slice D zs.length r] 23))
  have hall := (triple_below w (.slice A sss.length c) (.slice B ccc.length d) (.slice C ps.length e) 28).alloc (by simp) (.cells #[.slice D zs.length r] 23)
  have hz0 := hall.size
  have kl := new_cell (w.alloc (.cells #[.slice A sss.length c, .slice B ccc.length d, .slice C ps.length e] 28)) (.slice D zs.length r) 23 (g := w.heap.size + 1) (by simp)
  have q0 := z.below hall
  clear F
  unfold blocksE
  go_enter Try.func40, Try.ntmps40
  go_wp2
  generalize (w.alloc (.cells #[.slice A sss.length c, .slice B ccc.length d, .slice C ps.length e] 28)).alloc (.cells #[.slice D zs.length r] 23) = W0 at *
  go_loopw [5, 6, 7, 8, 9, 12, 20] (fun v _ _ _ _ i _ wr => ∃ (k : Nat) (A' : Option Addr) (c' : Nat), k ≤ zs.length ∧ i = .int .i64 k ∧ v = .slice A' (collTo (blockE sss ccc ps zs) pairG ccc.length k).length c' ∧ (∃ vs, wr.ownsRow W0.heap.size 23 1 (.slice A' (collTo (blockE sss ccc ps zs) pairG ccc.length k).length c') (collTo (blockE sss ccc ps zs) pairG ccc.length k).length vs) ∧ Below W0.heap.size W0 wr) (fun v _ _ _ _ i _ _ => zs.length - (intOf i).toNat)
  case atStart => exact ⟨0, none, 0, Nat.zero_le _, rfl, rfl, ⟨[], World.ownsRow_nil _ _ _ _⟩, Below.refl _ _⟩
  case round =>
    obtain ⟨i, A1, cc, hi, rfl, rfl, hown, hbo⟩ := hrel
    obtain ⟨wo, rfl⟩ : ∃ wo, wo = wr := ⟨_, rfl⟩
    by_cases hlt : i < zs.length
    · have hln := collTo_len (f := blockE sss ccc ps zs) (g := pairG) (n := ccc.length) (by omega) i
      have HS : Hid (collTo (blockE sss ccc ps zs) (pairG) ccc.length (i + 1) = collTo (blockE sss ccc ps zs) (pairG) ccc.length i ++ coll (blockE sss ccc ps zs i) (pairG i) ccc.length) := rfl
      generalize collTo (blockE sss ccc ps zs) (pairG) ccc.length i = L at *
      have S1 := S0.below hbo
      have kl1 := cell_carry hbo kl
      have q1 := q0.below hbo
      obtain ⟨by_, oy, ey, _, hcy⟩ := q1.at_ hlt
      cases ey
      have yi := hcy i hlt
      clear hcy
      have ki1 := new_cell wo (.int .i64 (i : Int)) 3 rfl
      have hbi : Below wo.heap.size wo (wo.alloc (.cells #[.int .i64 (i : Int)] 3)) := (Below.refl _ _).alloc (Nat.le_refl _) _
      have hzi : (wo.alloc (.cells #[.int .i64 (i : Int)] 3)).heap.size = wo.heap.size + 1 := World.size_alloc _ _
      have c1a := cell_carry hbi S1.c1
      obtain ⟨vs, hown⟩ := hown
      have hlt_ := fun j e => (World.ownsRow.lt hown j e).2
      replace hown := ownsRow_belowW hown hbi
      have hz1 := hbo.size
      replace hbo := hbo.trans (hbi.mono hz1)
      obtain ⟨N, hN⟩ : ∃ N, L.length = N := ⟨_, rfl⟩
      have HN := Lib.hid hN
      rw [hN] at hown hln hlt_ ⊢
      clear hN
      have hne : ∀ j, (Value.slice A1 N cc).ownBlock = some j → j ≠ wo.heap.size := fun j e => by have := hlt_ j e; omega
      clear hlt_
      go_wp2
      clear yi c1a S1 kl1 q1
      generalize wo.alloc (.cells #[.int .i64 (i : Int)] 3) = w1 at *
      go_loopw [5, 8, 9, 20] (fun v _ _ k_ wr => ∃ (k : Nat) (A' : Option Addr) (c' : Nat), k ≤ ccc.length ∧ k_ = .int .i64 k ∧ v = .slice A' (N + (coll (blockE sss ccc ps zs i) (pairG i) k).length) c' ∧ (∃ vs, wr.ownsRow W0.heap.size 23 1 (.slice A' (N + (coll (blockE sss ccc ps zs i) (pairG i) k).length) c') (N + (coll (blockE sss ccc ps zs i) (pairG i) k).length) vs) ∧ (∀ j, (Value.slice A' (N + (coll (blockE sss ccc ps zs i) (pairG i) k).length) c').ownBlock = some j → j ≠ wo.heap.size) ∧ wr.cell? ⟨wo.heap.size, 0, none⟩ = some (.int .i64 (i : Int)) ∧ Below W0.heap.size W0 wr) (fun _ _ _ k_ _ => ccc.length - (intOf k_).toNat)
      case atStart => exact ⟨0, A1, cc, by omega, rfl, rfl, ⟨vs, hown⟩, hne, ki1, hbo⟩
      case round =>
        obtain ⟨k, A1, cc, hk, rfl, rfl, hown, hne, ki, hb⟩ := hrel
        have zr := hb.size
        have hlen := coll_len (blockE sss ccc ps zs i) (pairG i) k
        have HY : Hid (blockE sss ccc ps zs i k = true → (coll (blockE sss ccc ps zs i) (pairG i) (k + 1)).length = (coll (blockE sss ccc ps zs i) (pairG i) k).length + 1) := fun h => by rw [coll_yes h]; simp
        have HO : Hid (blockE sss ccc ps zs i k = false → (coll (blockE sss ccc ps zs i) (pairG i) (k + 1)).length = (coll (blockE sss ccc ps zs i) (pairG i) k).length) := fun h => by rw [coll_no h]
        have HZ : Hid (k = ccc.length → N + (coll (blockE sss ccc ps zs i) (pairG i) k).length = (collTo (blockE sss ccc ps zs) (pairG) ccc.length (i + 1)).length) := fun h => by rw [HS.out, List.length_append, h, HN.out]
        obtain ⟨T', hT'⟩ : ∃ T', (coll (blockE sss ccc ps zs i) (pairG i) (k + 1)).length = T' := ⟨_, rfl⟩
        rw [hT'] at HY HO
        have HT' := Lib.hid hT'
        clear hT'
        have hT : N + (coll (blockE sss ccc ps zs i) (pairG i) k).length ≤ 100 := by omega
        clear hlen
        generalize (coll (blockE sss ccc ps zs i) (pairG i) k).length = T at *
        by_cases hkl : k < ccc.length
        · have hkb : Below wr.heap.size wr (wr.alloc (.cells #[.int .i64 (k : Int)] 3)) := (Below.refl _ _).alloc (Nat.le_refl _) _
          have K : BlkAt (wr.alloc (.cells #[.int .i64 (k : Int)] 3)) w.heap.size (w.heap.size + 1) wo.heap.size wr.heap.size A sss.length c sss B ccc.length d ccc C ps.length e ps (some ⟨by_, oy, none⟩) zs.length r zs i k :=
            ⟨(S0.below hb).below hkb, (q0.below hb).below hkb, cell_carry hkb (cell_carry hb kl), cell_carry hkb ki, new_cell _ _ _ rfl⟩
          obtain ⟨vs, hown⟩ := hown
          replace hown := ownsRow_belowW hown hkb
          replace hb := hb.trans (hkb.mono zr)
          replace zr := hb.size
          clear ki hkb
          go_wp2
          generalize wr.alloc (.cells #[.int .i64 (k : Int)] 3) = w2 at *
          have KK := Lib.hid K
          obtain ⟨⟨c0, c1, c2, stu, col, pla⟩, z2, kl2, ki2, kk2⟩ := K
          obtain ⟨b, o, A', c', rfl, _, hck, hcc, hin⟩ := stu.at_ (show i < sss.length by omega)
          obtain ⟨bp, op, rfl, _, hcp⟩ := pla.at_ (show k < ps.length by omega)
          have pk := hcp k (show k < ps.length by omega)
          clear hcp pla stu z2 hcc
          have i1 : (0 : Int) ≤ (i : Int) := by omega
          have i2 : (i : Int) < (sss.length : Int) := by omega
          have k1 : (0 : Int) ≤ (k : Int) := by omega
          have k2 : (k : Int) < (ccc.length : Int) := by omega
          have k3 : (k : Int) < (ps.length : Int) := by omega
          have rl : (rx sss i).length ≤ 1099511627776 := by have := rankE_len (FF.out.sch.sr i (by omega)); omega
          have K1 := Lib.hid (fun q => Calls.quiet_of_same (n := q) ((implPrefers _ _ c' _ (k : Int) (ix zs i) _ (hin.drewN q) rl).mono fun _ _ ⟨he, hw⟩ => ⟨he, hw.symm⟩))
          clear hin
          cases hlg : longsE sss zs i k
          · obtain ⟨t1, t2⟩ := longs_no hlg
            have HN' := Lib.hid (HO.out (block_no1 hlg))
            have t3 : decide ((0 : Int) ≤ ix zs i) = true := decide_eq_true t1
            rw [t2] at K1
            clear t2 hlg c1 c2 pk col
            go_quiet ((first | (with_reducible exact K1.out _)))
            go_wp2
            go_roundw
            case rel => exact ⟨k + 1, _, _, by omega, by go_num, by rw [HT'.out, HN'.out], by rw [HT'.out, HN'.out]; exact ⟨vs, hown⟩, by rw [HT'.out, HN'.out]; exact hne, ki2, hb.trans (below_of_drewN rfl)⟩
            case measure => simp [intOf]; omega
          have HB2 := Lib.hid (block_2 (ccc := ccc) (ps := ps) hlg)
          have HBW : Hid (Below W0.heap.size W0 w2) := hb
          by_cases hz : ix zs i < 0
          case' pos =>
            have t3 : decide ((0 : Int) ≤ ix zs i) = false := decide_eq_false (by omega)
            clear hlg K1
            go_quiet (fail)
          case' neg =>
            have t3 : decide ((0 : Int) ≤ ix zs i) = true := decide_eq_true (by omega)
            have t4 : pref (rx sss i) k (ix zs i) = true := by unfold longsE at hlg; rw [decide_eq_false hz] at hlg; simpa using hlg
            rw [t4] at K1
            clear t4 hlg
            go_quiet ((first | (with_reducible exact K1.out _)))
          all_goals
            clear c0 c1 c2 kl2 ki2 kk2 hck pk t3 hz col
            have K : BlkAt (w2.drewN nq) w.heap.size (w.heap.size + 1) wo.heap.size wr.heap.size (some ⟨b, o, none⟩) sss.length c sss B ccc.length d ccc (some ⟨bp, op, none⟩) ps.length e ps (some ⟨by_, oy, none⟩) zs.length r zs i k := KK.out.below (below_of_drewN rfl)
            replace hown : (w2.drewN nq).ownsRow W0.heap.size 23 1 (.slice A1 (N + T) cc) (N + T) vs := ownsRow_belowW hown (below_of_drewN rfl)
            have hb2 := HBW.out.trans (below_of_drewN (w' := w2.drewN nq) rfl)
            clear hb KK HBW
            generalize w2.drewN nq = w3 at *
            have c0 := K.s.c0
            have c1 := K.s.c1
            have c2 := K.s.c2
            have kl2 := K.kl
            have kk2 := K.kk
            have pk : w3.cell? ⟨bp, op + k, none⟩ = some (.int .i64 (ix ps k)) := by obtain ⟨b_, o_, e_, _, hc_⟩ := K.s.pla.at_ (show k < ps.length by omega); cases e_; exact hc_ k (by omega)
            replace K := K.below (w' := w3.drew) ((Below.refl _ _).drew)
            have hbd : Below w3.heap.size w3 w3.drew := (Below.refl _ _).drew
            by_cases hw : ix (filledOf ccc zs) k < ix ps k
            · have hblk := Lib.hid (HY.out (HB2.out.trans (wants_1 hw)))
              go_wp2
              refine wp_region_held_drew (S := fun w' => w'.cell? ⟨w.heap.size, 0, none⟩ = some (.slice (some ⟨b, o, none⟩) sss.length c) ∧ w'.cell? ⟨w.heap.size, 1, none⟩ = some (.slice B ccc.length d) ∧ w'.cell? ⟨w.heap.size, 2, none⟩ = some (.slice (some ⟨bp, op, none⟩) ps.length e) ∧ w'.cell? ⟨w.heap.size + 1, 0, none⟩ = some (.slice (some ⟨by_, oy, none⟩) zs.length r) ∧ w'.cell? ⟨wr.heap.size, 0, none⟩ = some (.int .i64 (k : Int)) ∧ w'.cell? ⟨bp, op + k, none⟩ = some (.int .i64 (ix ps k))) (by kernel_rfl) ?_ (fun hHeld => ?_)
              · exact ⟨c0, c1, c2, kl2, kk2, pk⟩
              refine wpAnyH_take (i := 0) (v := ?_) (by (simp only [List.getElem?_toArray, List.getElem?_cons_succ, List.getElem?_cons_zero]) <;> rfl) (by kernel_rfl) (by kernel_rfl) (by kernel_rfl) (by exact fun _ _ _ h => h) ?_ (by assumption) ?_
              rotate_left 1
              · refine Or.inl ⟨by rfl, ?_⟩; intro w_ hSw_; (try dsimp only at hSw_); first | (go_simp; done) | (go_simp; with_reducible rfl)
              try simp only [Act.put, List.setIfInBounds_toArray, List.set_cons_zero, List.set_cons_succ]
              refine wpAnyH_take (i := 1) (v := ?_) (by (simp only [List.getElem?_toArray, List.getElem?_cons_succ, List.getElem?_cons_zero]) <;> rfl) (by kernel_rfl) (by kernel_rfl) (by kernel_rfl) (by exact fun _ _ _ h => h) ?_ (by assumption) ?_
              rotate_left 1
              · refine Or.inl ⟨by rfl, ?_⟩; intro w_ hSw_; (try dsimp only at hSw_); first | (go_simp; done) | (go_simp; with_reducible rfl)
              try simp only [Act.put, List.setIfInBounds_toArray, List.set_cons_zero, List.set_cons_succ]
              refine wpAnyH_take (i := 3) (v := ?_) (by (simp only [List.getElem?_toArray, List.getElem?_cons_succ, List.getElem?_cons_zero]) <;> rfl) (by kernel_rfl) (by kernel_rfl) (by kernel_rfl) (by exact fun _ _ _ h => h) ?_ (by assumption) ?_
              rotate_left 1
              · refine Or.inl ⟨by rfl, ?_⟩; intro w_ hSw_; (try dsimp only at hSw_); first | (go_simp; done) | (go_simp; with_reducible rfl)
              try simp only [Act.put, List.setIfInBounds_toArray, List.set_cons_zero, List.set_cons_succ]
              refine wpAnyH_take (i := 6) (v := ?_) (by (simp only [List.getElem?_toArray, List.getElem?_cons_succ, List.getElem?_cons_zero]) <;> rfl) (by kernel_rfl) (by kernel_rfl) (by kernel_rfl) (by exact fun _ _ _ h => h) ?_ (by assumption) ?_
              rotate_left 1
              · refine Or.inl ⟨by rfl, ?_⟩; intro w_ hSw_; (try dsimp only at hSw_); first | (go_simp; done) | (go_simp; with_reducible rfl)
              try simp only [Act.put, List.setIfInBounds_toArray, List.set_cons_zero, List.set_cons_succ]
              refine wpAnyH_take (i := 7) (v := ?_) (by (simp only [List.getElem?_toArray, List.getElem?_cons_succ, List.getElem?_cons_zero]) <;> rfl) (by kernel_rfl) (by kernel_rfl) (by kernel_rfl) (by exact fun _ _ _ h => h) ?_ (by assumption) ?_
              rotate_left 1
              · refine Or.inl ⟨by rfl, ?_⟩; intro w_ hSw_; (try dsimp only at hSw_); first | (go_simp; done) | (go_simp; with_reducible rfl)
              try simp only [Act.put, List.setIfInBounds_toArray, List.set_cons_zero, List.set_cons_succ]
              refine wpAnyH_take (i := 8) (v := ?_) (by (simp only [List.getElem?_toArray, List.getElem?_cons_succ, List.getElem?_cons_zero]) <;> rfl) (by kernel_rfl) (by kernel_rfl) (by kernel_rfl) (by exact fun _ _ _ h => h) ?_ (by assumption) ?_
              rotate_left 1
              · refine Or.inl ⟨by rfl, ?_⟩; intro w_ hSw_; (try dsimp only at hSw_); first | (go_simp; done) | (go_simp; with_reducible rfl)
              try simp only [Act.put, List.setIfInBounds_toArray, List.set_cons_zero, List.set_cons_succ]
              refine wpAnyH_take (i := 9) (v := ?_) (by (simp only [List.getElem?_toArray, List.getElem?_cons_succ, List.getElem?_cons_zero]) <;> rfl) (by kernel_rfl) (by kernel_rfl) (by kernel_rfl) (by exact fun _ _ _ h => h) ?_ (by assumption) ?_
              rotate_left 1
              · refine Or.inl ⟨by rfl, ?_⟩; intro w_ hSw_; (try dsimp only at hSw_); first | (go_simp; done) | (go_simp; with_reducible rfl)
              try simp only [Act.put, List.setIfInBounds_toArray, List.set_cons_zero, List.set_cons_succ]
              refine wpAnyH_take (i := 10) (v := ?_) (by (simp only [List.getElem?_toArray, List.getElem?_cons_succ, List.getElem?_cons_zero]) <;> rfl) (by kernel_rfl) (by kernel_rfl) (by kernel_rfl) (by exact fun _ _ _ h => h) ?_ (by assumption) ?_
              rotate_left 1
              · refine Or.inl ⟨by rfl, ?_⟩; intro w_ hSw_; (try dsimp only at hSw_); first | (go_simp; done) | (go_simp; with_reducible rfl)
              try simp only [Act.put, List.setIfInBounds_toArray, List.set_cons_zero, List.set_cons_succ]
              refine wpAnyH_ready (rs := [2]) (by kernel_rfl) (by simp) ?_
              refine AllReadyH.cons (by (simp only [List.getElem?_toArray, List.getElem?_cons_succ, List.getElem?_cons_zero]) <;> rfl) (fun K_ hK_ => ?_) AllReadyH.nil
              go_simp
              go_at_call 37
              (with_reducible refine (filled_any _ _ _ _ _ _ _ _ _ _ _ _ _ _ _ _ _ K.s.stu K.s.col K.s.pla K.z FF.out).mono ?_)
              rintro er w4 ⟨A3, c3, rfl, of3, hb3⟩
              obtain ⟨g3, rfl, _, _⟩ := of3.head (by omega)
              have kf := of3.cellAt k hkl
              replace K := K.below hb3
              replace c0 := K.s.c0
              replace c1 := K.s.c1
              replace c2 := K.s.c2
              replace kl2 := K.kl
              replace kk2 := K.kk
              replace pk := cell_carry hb3 pk
              replace hbd := hbd.trans hb3
              clear hb3 of3
              refine hK_.out _ _ ⟨c0, c1, c2, kl2, kk2, pk⟩ (fun hHeld2 => ?_)
              clear hK_ K_
              try simp only [Act.put, List.setIfInBounds_toArray, List.set_cons_zero, List.set_cons_succ]
              refine wpAnyH_stronger (S' := fun w' => (w'.cell? ⟨w.heap.size, 0, none⟩ = some (.slice (some ⟨b, o, none⟩) sss.length c) ∧ w'.cell? ⟨w.heap.size, 1, none⟩ = some (.slice B ccc.length d) ∧ w'.cell? ⟨w.heap.size, 2, none⟩ = some (.slice (some ⟨bp, op, none⟩) ps.length e) ∧ w'.cell? ⟨w.heap.size + 1, 0, none⟩ = some (.slice (some ⟨by_, oy, none⟩) zs.length r) ∧ w'.cell? ⟨wr.heap.size, 0, none⟩ = some (.int .i64 (k : Int)) ∧ w'.cell? ⟨bp, op + k, none⟩ = some (.int .i64 (ix ps k))) ∧ w'.cell? ⟨g3, k, none⟩ = some (.int .i64 (ix (filledOf ccc zs) k))) (fun _ h => h.1) _ _ _ _ ?_
              have hHeld3 : (fun w' : World => (w'.cell? ⟨w.heap.size, 0, none⟩ = some (.slice (some ⟨b, o, none⟩) sss.length c) ∧ w'.cell? ⟨w.heap.size, 1, none⟩ = some (.slice B ccc.length d) ∧ w'.cell? ⟨w.heap.size, 2, none⟩ = some (.slice (some ⟨bp, op, none⟩) ps.length e) ∧ w'.cell? ⟨w.heap.size + 1, 0, none⟩ = some (.slice (some ⟨by_, oy, none⟩) zs.length r) ∧ w'.cell? ⟨wr.heap.size, 0, none⟩ = some (.int .i64 (k : Int)) ∧ w'.cell? ⟨bp, op + k, none⟩ = some (.int .i64 (ix ps k))) ∧ w'.cell? ⟨g3, k, none⟩ = some (.int .i64 (ix (filledOf ccc zs) k))) w4 := ⟨⟨c0, c1, c2, kl2, kk2, pk⟩, kf⟩
              clear hHeld hHeld2
              refine wpAnyH_take (i := 4) (v := ?_) (by (simp only [List.getElem?_toArray, List.getElem?_cons_succ, List.getElem?_cons_zero]) <;> rfl) (by kernel_rfl) (by kernel_rfl) (by kernel_rfl) (by exact fun _ _ _ h => h) ?_ (by assumption) ?_
              rotate_left 1
              · refine Or.inl ⟨by rfl, ?_⟩; intro w_ hSw_; (try dsimp only at hSw_); first | (go_simp; done) | (go_simp; with_reducible rfl)
              try simp only [Act.put, List.setIfInBounds_toArray, List.set_cons_zero, List.set_cons_succ]
              refine wpAnyH_take (i := 5) (v := ?_) (by (simp only [List.getElem?_toArray, List.getElem?_cons_succ, List.getElem?_cons_zero]) <;> rfl) (by kernel_rfl) (by kernel_rfl) (by kernel_rfl) (by exact fun _ _ _ h => h) ?_ (by assumption) ?_
              rotate_left 1
              · refine Or.inl ⟨by rfl, ?_⟩; intro w_ hSw_; (try dsimp only at hSw_); first | (go_simp; done) | (go_simp; with_reducible rfl)
              try simp only [Act.put, List.setIfInBounds_toArray, List.set_cons_zero, List.set_cons_succ]
              refine wpAnyH_take (i := 11) (v := ?_) (by (simp only [List.getElem?_toArray, List.getElem?_cons_succ, List.getElem?_cons_zero]) <;> rfl) (by kernel_rfl) (by kernel_rfl) (by kernel_rfl) (by exact fun _ _ _ h => h) ?_ (by assumption) ?_
              rotate_left 1
              · refine Or.inl ⟨by rfl, ?_⟩; intro w_ hSw_; (try dsimp only at hSw_); first | (go_simp; done) | (go_simp; with_reducible rfl)
              try simp only [Act.put, List.setIfInBounds_toArray, List.set_cons_zero, List.set_cons_succ]
              refine wpAnyH_take (i := 12) (v := ?_) (by (simp only [List.getElem?_toArray, List.getElem?_cons_succ, List.getElem?_cons_zero]) <;> rfl) (by kernel_rfl) (by kernel_rfl) (by kernel_rfl) (by exact fun _ _ _ h => h) ?_ (by assumption) ?_
              rotate_left 1
              · refine Or.inl ⟨by rfl, ?_⟩; intro w_ hSw_; (try dsimp only at hSw_); first | (go_simp; done) | (go_simp; with_reducible rfl)
              try simp only [Act.put, List.setIfInBounds_toArray, List.set_cons_zero, List.set_cons_succ]
              refine wpAnyH_take (i := 13) (v := undef) (by (simp only [List.getElem?_toArray, List.getElem?_cons_succ, List.getElem?_cons_zero]) <;> rfl) (by kernel_rfl) (by kernel_rfl) (by kernel_rfl) (by exact fun _ _ _ h => h) (by exact Or.inr ⟨by rfl, rfl⟩) (by assumption) ?_
              try simp only [Act.put, List.setIfInBounds_toArray, List.set_cons_zero, List.set_cons_succ]
              refine wpAnyH_take (i := 14) (v := undef) (by (simp only [List.getElem?_toArray, List.getElem?_cons_succ, List.getElem?_cons_zero]) <;> rfl) (by kernel_rfl) (by kernel_rfl) (by kernel_rfl) (by exact fun _ _ _ h => h) (by exact Or.inr ⟨by rfl, rfl⟩) (by assumption) ?_
              try simp only [Act.put, List.setIfInBounds_toArray, List.set_cons_zero, List.set_cons_succ]
              refine wpAnyH_take (i := 15) (v := undef) (by (simp only [List.getElem?_toArray, List.getElem?_cons_succ, List.getElem?_cons_zero]) <;> rfl) (by kernel_rfl) (by kernel_rfl) (by kernel_rfl) (by exact fun _ _ _ h => h) (by exact Or.inr ⟨by rfl, rfl⟩) (by assumption) ?_
              try simp only [Act.put, List.setIfInBounds_toArray, List.set_cons_zero, List.set_cons_succ]
              refine wpAnyH_take (i := 16) (v := undef) (by (simp only [List.getElem?_toArray, List.getElem?_cons_succ, List.getElem?_cons_zero]) <;> rfl) (by kernel_rfl) (by kernel_rfl) (by kernel_rfl) (by exact fun _ _ _ h => h) (by exact Or.inr ⟨by rfl, rfl⟩) (by assumption) ?_
              try simp only [Act.put, List.setIfInBounds_toArray, List.set_cons_zero, List.set_cons_succ]
              refine wpAnyH_take (i := 17) (v := undef) (by (simp only [List.getElem?_toArray, List.getElem?_cons_succ, List.getElem?_cons_zero]) <;> rfl) (by kernel_rfl) (by kernel_rfl) (by kernel_rfl) (by exact fun _ _ _ h => h) (by exact Or.inr ⟨by rfl, rfl⟩) (by assumption) ?_
              try simp only [Act.put, List.setIfInBounds_toArray, List.set_cons_zero, List.set_cons_succ]
              refine wpAnyH_take (i := 18) (v := ?_) (by (simp only [List.getElem?_toArray, List.getElem?_cons_succ, List.getElem?_cons_zero]) <;> rfl) (by kernel_rfl) (by kernel_rfl) (by kernel_rfl) (by exact fun _ _ _ h => h) ?_ (by assumption) ?_
              rotate_left 1
              · refine Or.inl ⟨by rfl, ?_⟩; intro w_ hSw_; (try dsimp only at hSw_); first | (go_simp; done) | (go_simp; with_reducible rfl)
              try simp only [Act.put, List.setIfInBounds_toArray, List.set_cons_zero, List.set_cons_succ]
              refine wpAnyH_done (by kernel_rfl) ?_ _
              clear hHeld3 hw
              have ki4 := K.ki
              have kk4 := K.kk
              have hown4 := ownsRow_belowW hown hbd
              have hb4 := hb2.trans (hbd.mono hb2.size)
              have z4 := hb4.size
              have z5 := cell_lt ki4
              clear K hbd hb2 c0 c1 c2 kl2 kk2 pk kf hown
              go_wp2_with (at_builtin; refine wpList_append_hdr _ rfl _ _ rfl W0.heap.size (N + T) _ _ vs rfl (ownsRow_belowW (ownsRow_belowW hown4 ((Below.refl _ _).alloc (Nat.le_refl _) _)) ((Below.refl _ _).alloc (Nat.le_refl _) _)) _ 1 _ rfl (new_cell _ _ _ (by simp)) rfl (by omega) (by simp; omega) ?_)
              intro A2 c2 w5 ho2 hgr hat
              have hbx := (hb4.alloc z4 (.cells #[.int .i64 (i : Int), .int .i64 (k : Int)] 3)).alloc (by simp; omega) (.cells #[.slice (some ⟨w4.heap.size, 0, none⟩) 2 2] 23)
              have hb5 := hbx.grown hgr hbx.size (fun j e => (World.ownsRow.lt hown4 j e).1)
              have ki5 := hgr.cell (a := ⟨wo.heap.size, 0, none⟩) (old_cell (old_cell ki4 _) _) (fun e => (hne _ e.symm) rfl)
              have hne5 : ∀ j, (Value.slice A2 (N + T + 1) c2).ownBlock = some j → j ≠ wo.heap.size := fun j e => by
                rcases hat with h0 | h0
                · exact hne j (h0 ▸ e)
                · rw [h0] at e
                  simp at e
                  omega
              have HE5 : Hid (∃ vs, w5.ownsRow W0.heap.size 23 1 (.slice A2 (N + T + 1) c2) (N + T + 1) vs) := ⟨_, ho2⟩
              have HN5 := Lib.hid hne5
              have HB5 := Lib.hid hb5
              have HK5 := Lib.hid ki5
              clear hgr hat hb5 ki5 hne5 ho2 hbx hb4 hown4 ki4 kk4
              go_wp2
              go_roundw
              case rel => exact ⟨k + 1, _, _, by omega, by go_num, by rw [HT'.out, hblk.out]; rfl, by rw [HT'.out, hblk.out]; exact HE5.out, by rw [HT'.out, hblk.out]; exact HN5.out, HK5.out, HB5.out⟩
              case measure => simp [intOf]; omega
            · obtain ⟨bb, hbb⟩ : ∃ bb, (upE zs.length).any (worseE ccc zs k i) = bb := ⟨_, rfl⟩
              have hww := Lib.hid (HB2.out.trans ((wants_2 hw).trans hbb))
              have hd : decide (ix (filledOf ccc zs) k < ix ps k) = false := decide_eq_false hw
              go_wp2
              refine wp_region_held_drew (S := fun w' => w'.cell? ⟨w.heap.size, 0, none⟩ = some (.slice (some ⟨b, o, none⟩) sss.length c) ∧ w'.cell? ⟨w.heap.size, 1, none⟩ = some (.slice B ccc.length d) ∧ w'.cell? ⟨w.heap.size, 2, none⟩ = some (.slice (some ⟨bp, op, none⟩) ps.length e) ∧ w'.cell? ⟨w.heap.size + 1, 0, none⟩ = some (.slice (some ⟨by_, oy, none⟩) zs.length r) ∧ w'.cell? ⟨wr.heap.size, 0, none⟩ = some (.int .i64 (k : Int)) ∧ w'.cell? ⟨bp, op + k, none⟩ = some (.int .i64 (ix ps k))) (by kernel_rfl) ?_ (fun hHeld => ?_)
              · exact ⟨c0, c1, c2, kl2, kk2, pk⟩
              refine wpAnyH_take (i := 0) (v := ?_) (by (simp only [List.getElem?_toArray, List.getElem?_cons_succ, List.getElem?_cons_zero]) <;> rfl) (by kernel_rfl) (by kernel_rfl) (by kernel_rfl) (by exact fun _ _ _ h => h) ?_ (by assumption) ?_
              rotate_left 1
              · refine Or.inl ⟨by rfl, ?_⟩; intro w_ hSw_; (try dsimp only at hSw_); first | (go_simp; done) | (go_simp; with_reducible rfl)
              try simp only [Act.put, List.setIfInBounds_toArray, List.set_cons_zero, List.set_cons_succ]
              refine wpAnyH_take (i := 1) (v := ?_) (by (simp only [List.getElem?_toArray, List.getElem?_cons_succ, List.getElem?_cons_zero]) <;> rfl) (by kernel_rfl) (by kernel_rfl) (by kernel_rfl) (by exact fun _ _ _ h => h) ?_ (by assumption) ?_
              rotate_left 1
              · refine Or.inl ⟨by rfl, ?_⟩; intro w_ hSw_; (try dsimp only at hSw_); first | (go_simp; done) | (go_simp; with_reducible rfl)
              try simp only [Act.put, List.setIfInBounds_toArray, List.set_cons_zero, List.set_cons_succ]
              refine wpAnyH_take (i := 3) (v := ?_) (by (simp only [List.getElem?_toArray, List.getElem?_cons_succ, List.getElem?_cons_zero]) <;> rfl) (by kernel_rfl) (by kernel_rfl) (by kernel_rfl) (by exact fun _ _ _ h => h) ?_ (by assumption) ?_
              rotate_left 1
              · refine Or.inl ⟨by rfl, ?_⟩; intro w_ hSw_; (try dsimp only at hSw_); first | (go_simp; done) | (go_simp; with_reducible rfl)
              try simp only [Act.put, List.setIfInBounds_toArray, List.set_cons_zero, List.set_cons_succ]
              refine wpAnyH_take (i := 6) (v := ?_) (by (simp only [List.getElem?_toArray, List.getElem?_cons_succ, List.getElem?_cons_zero]) <;> rfl) (by kernel_rfl) (by kernel_rfl) (by kernel_rfl) (by exact fun _ _ _ h => h) ?_ (by assumption) ?_
              rotate_left 1
              · refine Or.inl ⟨by rfl, ?_⟩; intro w_ hSw_; (try dsimp only at hSw_); first | (go_simp; done) | (go_simp; with_reducible rfl)
              try simp only [Act.put, List.setIfInBounds_toArray, List.set_cons_zero, List.set_cons_succ]
              refine wpAnyH_take (i := 7) (v := ?_) (by (simp only [List.getElem?_toArray, List.getElem?_cons_succ, List.getElem?_cons_zero]) <;> rfl) (by kernel_rfl) (by kernel_rfl) (by kernel_rfl) (by exact fun _ _ _ h => h) ?_ (by assumption) ?_
              rotate_left 1
              · refine Or.inl ⟨by rfl, ?_⟩; intro w_ hSw_; (try dsimp only at hSw_); first | (go_simp; done) | (go_simp; with_reducible rfl)
              try simp only [Act.put, List.setIfInBounds_toArray, List.set_cons_zero, List.set_cons_succ]
              refine wpAnyH_take (i := 8) (v := ?_) (by (simp only [List.getElem?_toArray, List.getElem?_cons_succ, List.getElem?_cons_zero]) <;> rfl) (by kernel_rfl) (by kernel_rfl) (by kernel_rfl) (by exact fun _ _ _ h => h) ?_ (by assumption) ?_
              rotate_left 1
              · refine Or.inl ⟨by rfl, ?_⟩; intro w_ hSw_; (try dsimp only at hSw_); first | (go_simp; done) | (go_simp; with_reducible rfl)
              try simp only [Act.put, List.setIfInBounds_toArray, List.set_cons_zero, List.set_cons_succ]
              refine wpAnyH_take (i := 9) (v := ?_) (by (simp only [List.getElem?_toArray, List.getElem?_cons_succ, List.getElem?_cons_zero]) <;> rfl) (by kernel_rfl) (by kernel_rfl) (by kernel_rfl) (by exact fun _ _ _ h => h) ?_ (by assumption) ?_
              rotate_left 1
              · refine Or.inl ⟨by rfl, ?_⟩; intro w_ hSw_; (try dsimp only at hSw_); first | (go_simp; done) | (go_simp; with_reducible rfl)
              try simp only [Act.put, List.setIfInBounds_toArray, List.set_cons_zero, List.set_cons_succ]
              refine wpAnyH_take (i := 10) (v := ?_) (by (simp only [List.getElem?_toArray, List.getElem?_cons_succ, List.getElem?_cons_zero]) <;> rfl) (by kernel_rfl) (by kernel_rfl) (by kernel_rfl) (by exact fun _ _ _ h => h) ?_ (by assumption) ?_
              rotate_left 1
              · refine Or.inl ⟨by rfl, ?_⟩; intro w_ hSw_; (try dsimp only at hSw_); first | (go_simp; done) | (go_simp; with_reducible rfl)
              try simp only [Act.put, List.setIfInBounds_toArray, List.set_cons_zero, List.set_cons_succ]
              refine wpAnyH_ready (rs := [2]) (by kernel_rfl) (by simp) ?_
              refine AllReadyH.cons (by (simp only [List.getElem?_toArray, List.getElem?_cons_succ, List.getElem?_cons_zero]) <;> rfl) (fun K_ hK_ => ?_) AllReadyH.nil
              go_simp
              go_at_call 37
              (with_reducible refine (filled_any _ _ _ _ _ _ _ _ _ _ _ _ _ _ _ _ _ K.s.stu K.s.col K.s.pla K.z FF.out).mono ?_)
              rintro er w4 ⟨A3, c3, rfl, of3, hb3⟩
              obtain ⟨g3, rfl, _, _⟩ := of3.head (by omega)
              have kf := of3.cellAt k hkl
              replace K := K.below hb3
              replace c0 := K.s.c0
              replace c1 := K.s.c1
              replace c2 := K.s.c2
              replace kl2 := K.kl
              replace kk2 := K.kk
              replace pk := cell_carry hb3 pk
              replace hbd := hbd.trans hb3
              clear hb3 of3
              refine hK_.out _ _ ⟨c0, c1, c2, kl2, kk2, pk⟩ (fun hHeld2 => ?_)
              clear hK_ K_
              try simp only [Act.put, List.setIfInBounds_toArray, List.set_cons_zero, List.set_cons_succ]
              refine wpAnyH_stronger (S' := fun w' => (w'.cell? ⟨w.heap.size, 0, none⟩ = some (.slice (some ⟨b, o, none⟩) sss.length c) ∧ w'.cell? ⟨w.heap.size, 1, none⟩ = some (.slice B ccc.length d) ∧ w'.cell? ⟨w.heap.size, 2, none⟩ = some (.slice (some ⟨bp, op, none⟩) ps.length e) ∧ w'.cell? ⟨w.heap.size + 1, 0, none⟩ = some (.slice (some ⟨by_, oy, none⟩) zs.length r) ∧ w'.cell? ⟨wr.heap.size, 0, none⟩ = some (.int .i64 (k : Int)) ∧ w'.cell? ⟨bp, op + k, none⟩ = some (.int .i64 (ix ps k))) ∧ w'.cell? ⟨g3, k, none⟩ = some (.int .i64 (ix (filledOf ccc zs) k))) (fun _ h => h.1) _ _ _ _ ?_
              have hHeld3 : (fun w' : World => (w'.cell? ⟨w.heap.size, 0, none⟩ = some (.slice (some ⟨b, o, none⟩) sss.length c) ∧ w'.cell? ⟨w.heap.size, 1, none⟩ = some (.slice B ccc.length d) ∧ w'.cell? ⟨w.heap.size, 2, none⟩ = some (.slice (some ⟨bp, op, none⟩) ps.length e) ∧ w'.cell? ⟨w.heap.size + 1, 0, none⟩ = some (.slice (some ⟨by_, oy, none⟩) zs.length r) ∧ w'.cell? ⟨wr.heap.size, 0, none⟩ = some (.int .i64 (k : Int)) ∧ w'.cell? ⟨bp, op + k, none⟩ = some (.int .i64 (ix ps k))) ∧ w'.cell? ⟨g3, k, none⟩ = some (.int .i64 (ix (filledOf ccc zs) k))) w4 := ⟨⟨c0, c1, c2, kl2, kk2, pk⟩, kf⟩
              clear hHeld hHeld2
              refine wpAnyH_take (i := 4) (v := ?_) (by (simp only [List.getElem?_toArray, List.getElem?_cons_succ, List.getElem?_cons_zero]) <;> rfl) (by kernel_rfl) (by kernel_rfl) (by kernel_rfl) (by exact fun _ _ _ h => h) ?_ (by assumption) ?_
              rotate_left 1
              · refine Or.inl ⟨by rfl, ?_⟩; intro w_ hSw_; (try dsimp only at hSw_); first | (go_simp; done) | (go_simp; with_reducible rfl)
              try simp only [Act.put, List.setIfInBounds_toArray, List.set_cons_zero, List.set_cons_succ]
              refine wpAnyH_take (i := 5) (v := ?_) (by (simp only [List.getElem?_toArray, List.getElem?_cons_succ, List.getElem?_cons_zero]) <;> rfl) (by kernel_rfl) (by kernel_rfl) (by kernel_rfl) (by exact fun _ _ _ h => h) ?_ (by assumption) ?_
              rotate_left 1
              · refine Or.inl ⟨by rfl, ?_⟩; intro w_ hSw_; (try dsimp only at hSw_); first | (go_simp; done) | (go_simp; with_reducible rfl)
              try simp only [Act.put, List.setIfInBounds_toArray, List.set_cons_zero, List.set_cons_succ]
              refine wpAnyH_take (i := 11) (v := ?_) (by (simp only [List.getElem?_toArray, List.getElem?_cons_succ, List.getElem?_cons_zero]) <;> rfl) (by kernel_rfl) (by kernel_rfl) (by kernel_rfl) (by exact fun _ _ _ h => h) ?_ (by assumption) ?_
              rotate_left 1
              · refine Or.inl ⟨by rfl, ?_⟩; intro w_ hSw_; (try dsimp only at hSw_); first | (go_simp; done) | (go_simp; with_reducible rfl)
              try simp only [Act.put, List.setIfInBounds_toArray, List.set_cons_zero, List.set_cons_succ]
              refine wpAnyH_take (i := 12) (v := ?_) (by (simp only [List.getElem?_toArray, List.getElem?_cons_succ, List.getElem?_cons_zero]) <;> rfl) (by kernel_rfl) (by kernel_rfl) (by kernel_rfl) (by exact fun _ _ _ h => h) ?_ (by assumption) ?_
              rotate_left 1
              · refine Or.inl ⟨by rfl, ?_⟩; intro w_ hSw_; (try dsimp only at hSw_); first | (go_simp; done) | (go_simp; with_reducible rfl)
              try simp only [Act.put, List.setIfInBounds_toArray, List.set_cons_zero, List.set_cons_succ]
              refine wpAnyH_take (i := 13) (v := ?_) (by (simp only [List.getElem?_toArray, List.getElem?_cons_succ, List.getElem?_cons_zero]) <;> rfl) (by kernel_rfl) (by kernel_rfl) (by kernel_rfl) (by exact fun _ _ _ h => h) ?_ (by assumption) ?_
              rotate_left 1
              · refine Or.inl ⟨by rfl, ?_⟩; intro w_ hSw_; (try dsimp only at hSw_); first | (go_simp; done) | (go_simp; with_reducible rfl)
              try simp only [Act.put, List.setIfInBounds_toArray, List.set_cons_zero, List.set_cons_succ]
              refine wpAnyH_take (i := 14) (v := ?_) (by (simp only [List.getElem?_toArray, List.getElem?_cons_succ, List.getElem?_cons_zero]) <;> rfl) (by kernel_rfl) (by kernel_rfl) (by kernel_rfl) (by exact fun _ _ _ h => h) ?_ (by assumption) ?_
              rotate_left 1
              · refine Or.inl ⟨by rfl, ?_⟩; intro w_ hSw_; (try dsimp only at hSw_); first | (go_simp; done) | (go_simp; with_reducible rfl)
              try simp only [Act.put, List.setIfInBounds_toArray, List.set_cons_zero, List.set_cons_succ]
              refine wpAnyH_take (i := 16) (v := ?_) (by (simp only [List.getElem?_toArray, List.getElem?_cons_succ, List.getElem?_cons_zero]) <;> rfl) (by kernel_rfl) (by kernel_rfl) (by kernel_rfl) (by exact fun _ _ _ h => h) ?_ (by assumption) ?_
              rotate_left 1
              · refine Or.inl ⟨by rfl, ?_⟩; intro w_ hSw_; (try dsimp only at hSw_); first | (go_simp; done) | (go_simp; with_reducible rfl)
              try simp only [Act.put, List.setIfInBounds_toArray, List.set_cons_zero, List.set_cons_succ]
              refine wpAnyH_ready (rs := [15]) (by kernel_rfl) (by simp) ?_
              refine AllReadyH.cons (by (simp only [List.getElem?_toArray, List.getElem?_cons_succ, List.getElem?_cons_zero]) <;> rfl) (fun K_ hK_ => ?_) AllReadyH.nil
              go_simp
              go_at_call 54
              (with_reducible refine (indicesE_any zs.length _ (by omega)).mono ?_)
              rintro er w5 ⟨A5, c5, rfl, of5, hb3⟩
              replace K := K.below hb3
              replace c0 := K.s.c0
              replace c1 := K.s.c1
              replace c2 := K.s.c2
              replace kl2 := K.kl
              replace kk2 := K.kk
              replace pk := cell_carry hb3 pk
              replace kf := cell_carry hb3 kf
              replace hbd := hbd.trans (hb3.mono hbd.size)
              clear hb3
              refine hK_.out _ _ ⟨⟨c0, c1, c2, kl2, kk2, pk⟩, kf⟩ (fun hHeld4 => ?_)
              clear hK_ K_
              try simp only [Act.put, List.setIfInBounds_toArray, List.set_cons_zero, List.set_cons_succ]
              clear hHeld3
              refine wpAnyH_ready (rs := [17]) (by kernel_rfl) (by simp) ?_
              refine AllReadyH.cons (by (simp only [List.getElem?_toArray, List.getElem?_cons_succ, List.getElem?_cons_zero]) <;> rfl) (fun K_ hK_ => ?_) AllReadyH.nil
              go_simp
              go_at_call 48
              (with_reducible refine (containsFunc_any 53 #[.pointer (some ⟨w.heap.size + 1, 0, none⟩), .pointer (some ⟨wr.heap.size, 0, none⟩), .pointer (some ⟨w.heap.size, 0, none⟩), .pointer (some ⟨wo.heap.size, 0, none⟩)] (worseE ccc zs k i) _ _ _ (upE zs.length) _ of5.at_ (by omega) (enters Try.func53 (by kernel_rfl) rfl) (fun x W hx hB => by obtain ⟨j, hj, rfl⟩ := upE_mem hx; have h5 : Calls Try.prog 53 _ W (fun e W' => e = Ending.returned (.bool (worseE ccc zs k i (j : Int))) ∧ Below W.heap.size W W') := (worse_any j W (K.below hB) FF.out hj hkl).mono (fun _ _ ⟨he, q, hw⟩ => ⟨he, below_of_drewN hw⟩); simp only [List.append_toArray, List.cons_append, List.nil_append]; exact h5)).mono ?_)
              rintro er w4 ⟨rfl, hb3⟩
              replace K := K.below hb3
              replace c0 := K.s.c0
              replace c1 := K.s.c1
              replace c2 := K.s.c2
              replace kl2 := K.kl
              replace kk2 := K.kk
              replace pk := cell_carry hb3 pk
              replace kf := cell_carry hb3 kf
              replace hbd := hbd.trans (hb3.mono hbd.size)
              clear hb3 of5
              rw [hbb]
              refine hK_.out _ _ ⟨⟨c0, c1, c2, kl2, kk2, pk⟩, kf⟩ (fun hHeld5 => ?_)
              clear hK_ K_
              try simp only [Act.put, List.setIfInBounds_toArray, List.set_cons_zero, List.set_cons_succ]
              clear hHeld4
              refine wpAnyH_take (i := 18) (v := ?_) (by (simp only [List.getElem?_toArray, List.getElem?_cons_succ, List.getElem?_cons_zero]) <;> rfl) (by kernel_rfl) (by kernel_rfl) (by kernel_rfl) (by exact fun _ _ _ h => h) ?_ (by assumption) ?_
              rotate_left 1
              · refine Or.inl ⟨by rfl, ?_⟩; intro w_ hSw_; (try dsimp only at hSw_); first | (go_simp; done) | (go_simp; with_reducible rfl)
              try simp only [Act.put, List.setIfInBounds_toArray, List.set_cons_zero, List.set_cons_succ]
              refine wpAnyH_done (by kernel_rfl) ?_ _
              clear hHeld5 hw
              cases bb
              · have hblk := Lib.hid (HO.out hww.out)
                have HK5 := Lib.hid K.ki
                have hown4 := Lib.hid (ownsRow_belowW hown hbd)
                have hb4 := Lib.hid (hb2.trans (hbd.mono hb2.size))
                clear K hbd hb2 c0 c1 c2 kl2 kk2 pk kf hown hbb
                go_wp2
                go_roundw
                case rel => exact ⟨k + 1, _, _, by omega, by go_num, by rw [HT'.out, hblk.out], by rw [HT'.out, hblk.out]; exact ⟨_, hown4.out⟩, by rw [HT'.out, hblk.out]; exact hne, HK5.out, hb4.out⟩
                case measure => simp [intOf]; omega
              · have hblk := Lib.hid (HY.out hww.out)
                clear hbb
                have ki4 := K.ki
                have kk4 := K.kk
                have hown4 := ownsRow_belowW hown hbd
                have hb4 := hb2.trans (hbd.mono hb2.size)
                have z4 := hb4.size
                have z5 := cell_lt ki4
                clear K hbd hb2 c0 c1 c2 kl2 kk2 pk kf hown
                go_wp2_with (at_builtin; refine wpList_append_hdr _ rfl _ _ rfl W0.heap.size (N + T) _ _ vs rfl (ownsRow_belowW (ownsRow_belowW hown4 ((Below.refl _ _).alloc (Nat.le_refl _) _)) ((Below.refl _ _).alloc (Nat.le_refl _) _)) _ 1 _ rfl (new_cell _ _ _ (by simp)) rfl (by omega) (by simp; omega) ?_)
                intro A2 c2 w5 ho2 hgr hat
                have hbx := (hb4.alloc z4 (.cells #[.int .i64 (i : Int), .int .i64 (k : Int)] 3)).alloc (by simp; omega) (.cells #[.slice (some ⟨w4.heap.size, 0, none⟩) 2 2] 23)
                have hb5 := hbx.grown hgr hbx.size (fun j e => (World.ownsRow.lt hown4 j e).1)
                have ki5 := hgr.cell (a := ⟨wo.heap.size, 0, none⟩) (old_cell (old_cell ki4 _) _) (fun e => (hne _ e.symm) rfl)
                have hne5 : ∀ j, (Value.slice A2 (N + T + 1) c2).ownBlock = some j → j ≠ wo.heap.size := fun j e => by
                  rcases hat with h0 | h0
                  · exact hne j (h0 ▸ e)
                  · rw [h0] at e
                    simp at e
                    omega
                have HE5 : Hid (∃ vs, w5.ownsRow W0.heap.size 23 1 (.slice A2 (N + T + 1) c2) (N + T + 1) vs) := ⟨_, ho2⟩
                have HN5 := Lib.hid hne5
                have HB5 := Lib.hid hb5
                have HK5 := Lib.hid ki5
                clear hgr hat hb5 ki5 hne5 ho2 hbx hb4 hown4 ki4 kk4
                go_wp2
                go_roundw
                case rel => exact ⟨k + 1, _, _, by omega, by go_num, by rw [HT'.out, hblk.out]; rfl, by rw [HT'.out, hblk.out]; exact HE5.out, by rw [HT'.out, hblk.out]; exact HN5.out, HK5.out, HB5.out⟩
                case measure => simp [intOf]; omega
        · obtain rfl : k = ccc.length := by omega
          have EL := Lib.hid (HZ.out rfl)
          rw [EL.out] at hown
          go_wp2
          go_roundw
          case rel => exact ⟨i + 1, _, _, by omega, by go_num, by rw [EL.out], hown, hb⟩
          case measure => simp [intOf]; omega
    · obtain rfl : i = zs.length := by omega
      have hfin := hall.trans (hbo.mono hz0)
      go_wp2
      go_ret
      exact ⟨_, _, rfl, hfin⟩
set_option maxHeartbeats 800000 in
theorem implIsStableEntry (A : Option Addr) (n c : Nat) (sss : List (List Int)) (B : Option Addr) (m d : Nat) (ccc : List (List Int)) (C : Option Addr) (l e : Nat) (ps : List Int) (D : Option Addr) (p r : Nat) (zs : List Int) (w : World) (h : RowsAt w A n sss) (hn : n ≤ 1048576) (hx : ∀ xs ∈ sss, xs.length ≤ 1048576)
    (g : RowsAt w B m ccc) (hm : m ≤ 1048576) (hy : ∀ xs ∈ ccc, xs.length ≤ 1048576) (q : IntsAt w C l ps) (hl : l ≤ 1048576) (z : IntsAt w D p zs) (hp : p ≤ 1048576) :
    Calls Try.prog 23 #[.agg #[.slice A n c, .slice B m d, .slice C l e], .slice D p r] w fun r w' => r = .returned (.bool (stableE sss ccc ps zs)) ∧ Below w.heap.size w w' := by
  obtain rfl := h.len
  obtain rfl := g.len
  obtain rfl := q.len
  obtain rfl := z.len
  have HX := Lib.hid hx
  have HY := Lib.hid hy
  clear hx hy
  have hall := triple_below w (.slice A sss.length c) (.slice B ccc.length d) (.slice C ps.length e) 28
  have hz0 := hall.size
  have S0 := SchAt.new h g q (c := c) (d := d) (e := e) 28
  obtain ⟨c0, c1, c2, h0, g0, q0⟩ := S0
  have S0 : SchAt (w.alloc (.cells #[.slice A sss.length c, .slice B ccc.length d, .slice C ps.length e] 28)) _ _ _ _ _ _ _ _ _ _ _ _ _ := ⟨c0, c1, c2, h0, g0, q0⟩
  have z0 := z.below hall
  cases h1 : entryOk sss ccc ps zs
  · have e1 : stableE sss ccc ps zs = false := by unfold stableE; rw [h1]; rfl
    rw [e1]
    clear e1
    go_enter Try.func23, Try.ntmps23
    go_wp2_with fail
    (with_reducible refine (implEntryOk _ _ _ _ _ _ _ _ _ _ _ _ _ _ _ _ _ h0 hn HX.out g0 hm HY.out q0 hl z0 hp).mono ?_)
    rintro er w1 ⟨rfl, hb⟩
    rw [h1]
    have b1 := hall.trans (hb.mono hz0)
    clear hb S0 hall hz0 c0 c1 c2 h0 g0 q0 z0
    go_wp2
    go_ret
    exact ⟨rfl, b1⟩
  have FE := Lib.hid (entry_facts h1)
  have e1 : stableE sss ccc ps zs = ((blocksE sss ccc ps zs).length == 0) := by unfold stableE; rw [h1]; rfl
  have e2 : (((blocksE sss ccc ps zs).length : Int) == 0) = ((blocksE sss ccc ps zs).length == 0) := by
    rw [Bool.eq_iff_iff, beq_iff_eq, beq_iff_eq]; omega
  rw [e1, ← e2]
  have E2 := Lib.hid e2
  clear e1 e2
  have HB := Lib.hid (fun W hW hG hQ hZ => blocksE_any A sss.length c sss B ccc.length d ccc C ps.length e ps D zs.length r zs W hW hG hQ hZ FE.out)
  generalize (blocksE sss ccc ps zs).length = N at *
  go_enter Try.func23, Try.ntmps23
  go_wp2_with fail
  (with_reducible refine (implEntryOk _ _ _ _ _ _ _ _ _ _ _ _ _ _ _ _ _ h0 hn HX.out g0 hm HY.out q0 hl z0 hp).mono ?_)
  rintro er w1 ⟨rfl, hb⟩
  rw [h1]
  have S1 := S0.below hb
  have z1 := z0.below hb
  have b1 := hall.trans (hb.mono hz0)
  have s1 := b1.size
  clear hb S0 hall hz0 c0 c1 c2 h0 g0 q0 z0
  obtain ⟨c0, c1, c2, h0, g0, q0⟩ := S1
  go_wp2_with fail
  (with_reducible refine (HB.out _ h0 g0 q0 z1).mono ?_)
  rintro er w3 ⟨A3, c3, rfl, hb⟩
  have b3 := b1.trans (hb.mono s1)
  clear hb b1 c0 c1 c2 h0 g0 q0 z1
  go_wp2
  go_ret
  exact ⟨rfl, b3⟩
end Go.Proofs.Ytmakbndlobaaaaa
