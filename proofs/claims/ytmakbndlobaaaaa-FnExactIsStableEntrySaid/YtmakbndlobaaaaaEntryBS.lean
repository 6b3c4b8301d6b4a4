/- The pairs that block an entry: the reference's side. -/
import Derived.Test.YtmakbndlobaaaaaEntryB
import Derived.Test.YtmakbndlobaaaaaHdrAp
import Derived.Test.YtmakbndlobaaaaaRegH
namespace Go.Proofs.Ytmakbndlobaaaaa
set_option linter.unusedVariables false
open Go.RowKit

theorem wantsS_1 {ccc : List (List Int)} {ps zs : List Int} {i k : Nat} (h : ix (filledOf ccc zs) k < ix ps k) : wantsE ccc ps zs k i = true := by unfold wantsE; rw [decide_eq_true h]; rfl
theorem wantsS_2 {ccc : List (List Int)} {ps zs : List Int} {i k : Nat} (h : ¬ ix (filledOf ccc zs) k < ix ps k) : wantsE ccc ps zs k i = !allN (fun x => !worseE ccc zs k i x) zs.length := by unfold wantsE; rw [decide_eq_false h]; rfl
theorem worseS_no {ccc : List (List Int)} {zs : List Int} {k i x : Nat} (h : ix zs x ≠ k) : (!worseE ccc zs k i x) = true := by unfold worseE; rw [Int.toNat_natCast, decide_eq_false h]; rfl
theorem worseS_yes {ccc : List (List Int)} {zs : List Int} {k i x : Nat} (h : ix zs x = k) : worseE ccc zs k i x = pref (rx ccc k) i x := by unfold worseE; rw [Int.toNat_natCast, decide_eq_true h]; simp
set_option maxRecDepth 100000 in
set_option maxHeartbeats 2000000 in
theorem l21Wants_any (A : Option Addr) (n c : Nat) (sss : List (List Int)) (B : Option Addr) (m d : Nat) (ccc : List (List Int)) (C : Option Addr) (l e : Nat) (ps : List Int) (D : Option Addr) (p r : Nat) (zs : List Int) (i k : Nat) (w : World) (h : RowsAt w A n sss)
    (g : RowsAt w B m ccc) (q : IntsAt w C l ps) (z : IntsAt w D p zs) (F : EntryF sss ccc ps zs) (hk : k < ccc.length) :
    Calls Try.prog 51 #[.agg #[.slice A n c, .slice B m d, .slice C l e], .slice D p r, .int .i64 (k : Int), .int .i64 (i : Int)] w fun er w' => er = .returned (.bool (wantsE ccc ps zs k i)) ∧ Below w.heap.size w w' := by
  obtain rfl := h.len
  obtain rfl := g.len
  obtain rfl := q.len
  obtain rfl := z.len
  have FF := Lib.hid F
  have f1 := F.sch.n5
  have f2 := F.sch.c3
  have fz1 := Nat.le_of_eq F.zl
  have fz2 := Nat.le_of_eq F.zl.symm
  have fp1 := Nat.le_of_eq F.sch.pl
  have fp2 := Nat.le_of_eq F.sch.pl.symm
  have hall := triple_below w (.slice A sss.length c) (.slice B ccc.length d) (.slice C ps.length e) 28
  have hz0 := hall.size
  have S0 := SchAt.new h g q (c := c) (d := d) (e := e) 28
  have z0 := z.below hall
  clear F
  obtain ⟨bp, op, rfl, _, hcp⟩ := S0.pla.at_ (show k < ps.length by omega)
  have pk := hcp k (show k < ps.length by omega)
  clear hcp
  have c0 := S0.c0
  have c1 := S0.c1
  have c2 := S0.c2
  have k1 : (0 : Int) ≤ (k : Int) := by omega
  have k2 : (k : Int) < (ccc.length : Int) := by omega
  have k3 : (k : Int) < (ps.length : Int) := by omega
  have HGO : Hid (∀ W, Below w.heap.size w W → True) := fun _ _ => trivial
  by_cases hw : ix (filledOf ccc zs) k < ix ps k
  case' pos =>
    have e1 : wantsE ccc ps zs k i = true := wantsS_1 hw
    have hd : decide (ix (filledOf ccc zs) k < ix ps k) = true := decide_eq_true hw
  case' neg =>
    have e1 : wantsE ccc ps zs k i = !allN (fun x => !worseE ccc zs k i x) zs.length := wantsS_2 hw
    have hd : decide (ix (filledOf ccc zs) k < ix ps k) = false := decide_eq_false hw
  all_goals
    rw [e1]
    clear e1 HGO
    go_enter Try.func51, Try.ntmps51
    go_wp2
    generalize w.alloc (.cells #[.slice A sss.length c, .slice B ccc.length d, .slice (some ⟨bp, op, none⟩) ps.length e] 28) = w3 at *
    have hbd : Below w3.heap.size w3 w3.drew := (Below.refl _ _).drew
    have S3 := S0.below hbd
    have z3 := z0.below hbd
    refine wp_region_held_drew (S := fun w' => w'.cell? ⟨w.heap.size, 0, none⟩ = some (.slice A sss.length c) ∧ w'.cell? ⟨w.heap.size, 1, none⟩ = some (.slice B ccc.length d) ∧ w'.cell? ⟨w.heap.size, 2, none⟩ = some (.slice (some ⟨bp, op, none⟩) ps.length e) ∧ w'.cell? ⟨bp, op + k, none⟩ = some (.int .i64 (ix ps k))) (by kernel_rfl) ?_ (fun hHeld => ?_)
    · exact ⟨c0, c1, c2, pk⟩
    refine wpAnyH_take (i := 0) (v := ?_) (by (simp only [List.getElem?_toArray, List.getElem?_cons_succ, List.getElem?_cons_zero]) <;> rfl) (by kernel_rfl) (by kernel_rfl) (by kernel_rfl) (by exact fun _ _ _ h => h) ?_ (by assumption) ?_
    rotate_left 1
    · refine Or.inl ⟨by rfl, ?_⟩; intro w_ hSw_; (try dsimp only at hSw_); first | (go_simp; done) | (go_simp; with_reducible rfl)
    try simp only [Act.put, List.setIfInBounds_toArray, List.set_cons_zero, List.set_cons_succ]
    refine wpAnyH_take (i := 1) (v := ?_) (by (simp only [List.getElem?_toArray, List.getElem?_cons_succ, List.getElem?_cons_zero]) <;> rfl) (by kernel_rfl) (by kernel_rfl) (by kernel_rfl) (by exact fun _ _ _ h => h) ?_ (by assumption) ?_
    rotate_left 1
    · refine Or.inl ⟨by rfl, ?_⟩; intro w_ hSw_; (try dsimp only at hSw_); first | (go_simp; done) | (go_simp; with_reducible rfl)
    try simp only [Act.put, List.setIfInBounds_toArray, List.set_cons_zero, List.set_cons_succ]
    refine wpAnyH_take (i := 3) (v := ?_) (by (simp only [List.getElem?_toArray, List.getElem?_cons_succ, List.getElem?_cons_zero]) <;> rfl) (by kernel_rfl) (by kernel_rfl) (by kernel_rfl) (by exact fun _ _ _ h => h) ?_ (by assumption) ?_
    rotate_left 1
    · refine Or.inl ⟨by rfl, ?_⟩; intro w_ hSw_; (try dsimp only at hSw_); first | (go_simp; done) | (go_simp; with_reducible rfl)
    try simp only [Act.put, List.setIfInBounds_toArray, List.set_cons_zero, List.set_cons_succ]
    refine wpAnyH_take (i := 6) (v := ?_) (by (simp only [List.getElem?_toArray, List.getElem?_cons_succ, List.getElem?_cons_zero]) <;> rfl) (by kernel_rfl) (by kernel_rfl) (by kernel_rfl) (by exact fun _ _ _ h => h) ?_ (by assumption) ?_
    rotate_left 1
    · refine Or.inl ⟨by rfl, ?_⟩; intro w_ hSw_; (try dsimp only at hSw_); first | (go_simp; done) | (go_simp; with_reducible rfl)
    try simp only [Act.put, List.setIfInBounds_toArray, List.set_cons_zero, List.set_cons_succ]
    refine wpAnyH_take (i := 7) (v := ?_) (by (simp only [List.getElem?_toArray, List.getElem?_cons_succ, List.getElem?_cons_zero]) <;> rfl) (by kernel_rfl) (by kernel_rfl) (by kernel_rfl) (by exact fun _ _ _ h => h) ?_ (by assumption) ?_
    rotate_left 1
    · refine Or.inl ⟨by rfl, ?_⟩; intro w_ hSw_; (try dsimp only at hSw_); first | (go_simp; done) | (go_simp; with_reducible rfl)
    try simp only [Act.put, List.setIfInBounds_toArray, List.set_cons_zero, List.set_cons_succ]
    refine wpAnyH_take (i := 8) (v := ?_) (by (simp only [List.getElem?_toArray, List.getElem?_cons_succ, List.getElem?_cons_zero]) <;> rfl) (by kernel_rfl) (by kernel_rfl) (by kernel_rfl) (by exact fun _ _ _ h => h) ?_ (by assumption) ?_
    rotate_left 1
    · refine Or.inl ⟨by rfl, ?_⟩; intro w_ hSw_; (try dsimp only at hSw_); first | (go_simp; done) | (go_simp; with_reducible rfl)
    try simp only [Act.put, List.setIfInBounds_toArray, List.set_cons_zero, List.set_cons_succ]
    refine wpAnyH_take (i := 9) (v := ?_) (by (simp only [List.getElem?_toArray, List.getElem?_cons_succ, List.getElem?_cons_zero]) <;> rfl) (by kernel_rfl) (by kernel_rfl) (by kernel_rfl) (by exact fun _ _ _ h => h) ?_ (by assumption) ?_
    rotate_left 1
    · refine Or.inl ⟨by rfl, ?_⟩; intro w_ hSw_; (try dsimp only at hSw_); first | (go_simp; done) | (go_simp; with_reducible rfl)
    try simp only [Act.put, List.setIfInBounds_toArray, List.set_cons_zero, List.set_cons_succ]
    refine wpAnyH_take (i := 10) (v := ?_) (by (simp only [List.getElem?_toArray, List.getElem?_cons_succ, List.getElem?_cons_zero]) <;> rfl) (by kernel_rfl) (by kernel_rfl) (by kernel_rfl) (by exact fun _ _ _ h => h) ?_ (by assumption) ?_
    rotate_left 1
    · refine Or.inl ⟨by rfl, ?_⟩; intro w_ hSw_; (try dsimp only at hSw_); first | (go_simp; done) | (go_simp; with_reducible rfl)
    try simp only [Act.put, List.setIfInBounds_toArray, List.set_cons_zero, List.set_cons_succ]
    refine wpAnyH_ready (rs := [2]) (by kernel_rfl) (by simp) ?_
    refine AllReadyH.cons (by (simp only [List.getElem?_toArray, List.getElem?_cons_succ, List.getElem?_cons_zero]) <;> rfl) (fun K_ hK_ => ?_) AllReadyH.nil
    go_simp
    go_at_call 36
    (with_reducible refine (l21Filled_any _ _ _ _ _ _ _ _ _ _ _ _ _ _ _ _ _ S3.stu S3.col S3.pla z3 FF.out).mono ?_)
    rintro er w4 ⟨A3, c3, rfl, of3, hb3⟩
    obtain ⟨g3, rfl, _, _⟩ := of3.head (by omega)
    have kf := of3.cellAt k hk
    replace S3 := S3.below hb3
    replace z3 := z3.below hb3
    replace c0 := S3.c0
    replace c1 := S3.c1
    replace c2 := S3.c2
    replace pk := cell_carry hb3 pk
    replace hbd := hbd.trans hb3
    clear hb3 of3
    refine hK_.out _ _ ⟨c0, c1, c2, pk⟩ (fun hHeld2 => ?_)
    clear hK_ K_
    try simp only [Act.put, List.setIfInBounds_toArray, List.set_cons_zero, List.set_cons_succ]
    refine wpAnyH_stronger (S' := fun w' => (w'.cell? ⟨w.heap.size, 0, none⟩ = some (.slice A sss.length c) ∧ w'.cell? ⟨w.heap.size, 1, none⟩ = some (.slice B ccc.length d) ∧ w'.cell? ⟨w.heap.size, 2, none⟩ = some (.slice (some ⟨bp, op, none⟩) ps.length e) ∧ w'.cell? ⟨bp, op + k, none⟩ = some (.int .i64 (ix ps k))) ∧ w'.cell? ⟨g3, k, none⟩ = some (.int .i64 (ix (filledOf ccc zs) k))) (fun _ h => h.1) _ _ _ _ ?_
    have hHeld3 : (fun w' : World => (w'.cell? ⟨w.heap.size, 0, none⟩ = some (.slice A sss.length c) ∧ w'.cell? ⟨w.heap.size, 1, none⟩ = some (.slice B ccc.length d) ∧ w'.cell? ⟨w.heap.size, 2, none⟩ = some (.slice (some ⟨bp, op, none⟩) ps.length e) ∧ w'.cell? ⟨bp, op + k, none⟩ = some (.int .i64 (ix ps k))) ∧ w'.cell? ⟨g3, k, none⟩ = some (.int .i64 (ix (filledOf ccc zs) k))) w4 := ⟨⟨c0, c1, c2, pk⟩, kf⟩
    clear hHeld hHeld2
    refine wpAnyH_take (i := 4) (v := ?_) (by (simp only [List.getElem?_toArray, List.getElem?_cons_succ, List.getElem?_cons_zero]) <;> rfl) (by kernel_rfl) (by kernel_rfl) (by kernel_rfl) (by exact fun _ _ _ h => h) ?_ (by assumption) ?_
    rotate_left 1
    · refine Or.inl ⟨by rfl, ?_⟩; intro w_ hSw_; (try dsimp only at hSw_); first | (go_simp; done) | (go_simp; with_reducible rfl)
    try simp only [Act.put, List.setIfInBounds_toArray, List.set_cons_zero, List.set_cons_succ]
    refine wpAnyH_take (i := 5) (v := ?_) (by (simp only [List.getElem?_toArray, List.getElem?_cons_succ, List.getElem?_cons_zero]) <;> rfl) (by kernel_rfl) (by kernel_rfl) (by kernel_rfl) (by exact fun _ _ _ h => h) ?_ (by assumption) ?_
    rotate_left 1
    · refine Or.inl ⟨by rfl, ?_⟩; intro w_ hSw_; (try dsimp only at hSw_); first | (go_simp; done) | (go_simp; with_reducible rfl)
    try simp only [Act.put, List.setIfInBounds_toArray, List.set_cons_zero, List.set_cons_succ]
    refine wpAnyH_take (i := 11) (v := ?_) (by (simp only [List.getElem?_toArray, List.getElem?_cons_succ, List.getElem?_cons_zero]) <;> rfl) (by kernel_rfl) (by kernel_rfl) (by kernel_rfl) (by exact fun _ _ _ h => h) ?_ (by assumption) ?_
    rotate_left 1
    · refine Or.inl ⟨by rfl, ?_⟩; intro w_ hSw_; (try dsimp only at hSw_); first | (go_simp; done) | (go_simp; with_reducible rfl)
    try simp only [Act.put, List.setIfInBounds_toArray, List.set_cons_zero, List.set_cons_succ]
    refine wpAnyH_done (by kernel_rfl) ?_ _
    have hb4 := hall.trans (hbd.mono hz0)
    have s4 := hb4.size
    clear hHeld3 kf pk hbd hall hz0 S0 z0
  · go_wp2
    go_loopw [9, 10, 25] (fun _ _ x_ wr => ∃ x : Nat, x ≤ zs.length ∧ x_ = .int .i64 x ∧ allN (fun x => !worseE ccc zs k i x) x = true ∧ Below w4.heap.size w4 wr) (fun _ _ x_ _ => zs.length - (intOf x_).toNat)
    case atStart => exact ⟨0, Nat.zero_le _, rfl, rfl, Below.refl _ _⟩
    case round =>
      obtain ⟨x, hx, rfl, hal, hb⟩ := hrel
      have HA := Lib.hid hal
      have zr := hb.size
      clear hal
      by_cases hlt : x < zs.length
      · have S5 := S3.below hb
        obtain ⟨bz, oz, rfl, _, hcz⟩ := (z3.below hb).at_ hlt
        have zx := hcz x hlt
        obtain ⟨b, o, A', c', rfl, _, hck, hcc, hin⟩ := S5.col.at_ hk
        have c1' := S5.c1
        have rl : (rx ccc k).length ≤ 1099511627776 := by have := rankE_len (FF.out.sch.cr k hk); omega
        clear hcz S5 hcc
        by_cases hz : ix zs x = k
        · have e1 := worseS_yes (ccc := ccc) (i := i) hz
          have t0 : (ix zs x == (k : Int)) = true := by rw [beq_iff_eq]; exact hz
          cases hp : pref (rx ccc k) i x
          · have HN := Lib.hid (allN_step (p := fun x => !worseE ccc zs k i x) HA.out (by show (!worseE ccc zs k i x) = true; rw [e1, hp]; rfl))
            have HP := Lib.hid hp
            clear e1 hp hz
            generalize ix zs x = zx_ at *
            go_wp2_with fail
            (with_reducible refine (specPrefers _ _ _ _ _ _ _ hin rl).mono ?_)
            rintro er w6 ⟨rfl, rfl⟩
            rw [HP.out]
            go_wp2
            go_roundw
            case rel => exact ⟨x + 1, by omega, by go_num, HN.out, hb⟩
            case measure => simp [intOf]; omega
          · have HN := Lib.hid (allN_false (p := fun x => !worseE ccc zs k i x) hlt (by show (!worseE ccc zs k i x) = false; rw [e1, hp]; rfl))
            have HP := Lib.hid hp
            clear e1 hp hz
            generalize ix zs x = zx_ at *
            go_wp2_with fail
            (with_reducible refine (specPrefers _ _ _ _ _ _ _ hin rl).mono ?_)
            rintro er w6 ⟨rfl, rfl⟩
            rw [HP.out]
            go_wp2
            go_ret
            exact ⟨ret_b (by rw [HN.out]; rfl), hb4.trans (hb.mono s4)⟩
        · have HN := Lib.hid (allN_step (p := fun x => !worseE ccc zs k i x) HA.out (worseS_no hz))
          have t0 : (ix zs x == (k : Int)) = false := by rw [beq_eq_false_iff_ne]; exact hz
          clear hz
          generalize ix zs x = zx_ at *
          go_wp2
          go_roundw
          case rel => exact ⟨x + 1, by omega, by go_num, HN.out, hb⟩
          case measure => simp [intOf]; omega
      · obtain rfl : x = zs.length := by omega
        go_wp2
        go_ret
        exact ⟨ret_b (by rw [HA.out]; rfl), hb4.trans (hb.mono s4)⟩
  · go_wp2
    go_ret
    exact ⟨rfl, hb4⟩
theorem blockS_no1 {sss ccc : List (List Int)} {ps zs : List Int} {i k : Nat} (h : longsE sss zs i k = false) : blockE sss ccc ps zs i k = false := by unfold blockE; rw [h]; rfl
theorem blockS_2 {sss ccc : List (List Int)} {ps zs : List Int} {i k : Nat} (h : longsE sss zs i k = true) : blockE sss ccc ps zs i k = wantsE ccc ps zs k i := by unfold blockE; rw [h]; rfl
theorem longsS_same {sss : List (List Int)} {zs : List Int} {i k : Nat} (h : ix zs i = k) : longsE sss zs i k = false := by unfold longsE; rw [h, pref_same, decide_eq_false (by omega)]; rfl
theorem longsS_neg {sss : List (List Int)} {zs : List Int} {i k : Nat} (h : ix zs i < 0) : longsE sss zs i k = true := by unfold longsE; rw [decide_eq_true h]; rfl
theorem longsS_pos {sss : List (List Int)} {zs : List Int} {i k : Nat} (h : ¬ ix zs i < 0) : longsE sss zs i k = pref (rx sss i) k (ix zs i) := by unfold longsE; rw [decide_eq_false h]; rfl
set_option maxRecDepth 100000 in
set_option maxHeartbeats 4000000 in
theorem l21BlocksE_any (A : Option Addr) (n c : Nat) (sss : List (List Int)) (B : Option Addr) (m d : Nat) (ccc : List (List Int)) (C : Option Addr) (l e : Nat) (ps : List Int) (D : Option Addr) (p r : Nat) (zs : List Int) (w : World) (h : RowsAt w A n sss)
    (g : RowsAt w B m ccc) (q : IntsAt w C l ps) (z : IntsAt w D p zs) (F : EntryF sss ccc ps zs) :
    Calls Try.prog 39 #[.agg #[.slice A n c, .slice B m d, .slice C l e], .slice D p r] w fun er w' => ∃ A' c', er = .returned (.slice A' (blocksE sss ccc ps zs).length c') ∧ Below w.heap.size w w' := by
  obtain rfl := h.len
  obtain rfl := g.len
  obtain rfl := q.len
  obtain rfl := z.len
  have FF := Lib.hid F
  have f1 := F.sch.n5
  have f2 := F.sch.c3
  have fz1 := Nat.le_of_eq F.zl
  have fz2 := Nat.le_of_eq F.zl.symm
  have hall := triple_below w (.slice A sss.length c) (.slice B ccc.length d) (.slice C ps.length e) 28
  have hz0 := hall.size
  have S0 := SchAt.new h g q (c := c) (d := d) (e := e) 28
  have q0 := z.below hall
  have c0w := S0.c0
  clear F
  have HE : Hid (blocksE sss ccc ps zs = collTo (blockE sss ccc ps zs) pairG ccc.length sss.length) := by show _ = _; unfold blocksE; rw [FF.out.zl]
  rw [HE.out]
  clear HE
  go_enter Try.func39, Try.ntmps39
  have oe := OwnR.empty (w.alloc (.cells #[.slice A sss.length c, .slice B ccc.length d, .slice C ps.length e] 28)) (lo := (w.alloc (.cells #[.slice A sss.length c, .slice B ccc.length d, .slice C ps.length e] 28)).heap.size) (hi := ((w.alloc (.cells #[.slice A sss.length c, .slice B ccc.length d, .slice C ps.length e] 28)).alloc (.cells #[] 23)).heap.size) (Nat.le_refl _) (by simp)
  have hsW : (w.alloc (.cells #[.slice A sss.length c, .slice B ccc.length d, .slice C ps.length e] 28)).heap.size = w.heap.size + 1 := World.size_alloc _ _
  have c0x := old_cell c0w (.cells #[] 23)
  have bE : Below (w.alloc (.cells #[.slice A sss.length c, .slice B ccc.length d, .slice C ps.length e] 28)).heap.size (w.alloc (.cells #[.slice A sss.length c, .slice B ccc.length d, .slice C ps.length e] 28)) ((w.alloc (.cells #[.slice A sss.length c, .slice B ccc.length d, .slice C ps.length e] 28)).alloc (.cells #[] 23)) := (Below.refl _ _).alloc (Nat.le_refl _) _
  obtain ⟨vs0, oe, _⟩ := oe
  rw [hsW] at oe
  rw [show (w.alloc (.cells #[.slice A sss.length c, .slice B ccc.length d, .slice C ps.length e] 28)).heap.size = w.heap.size + 1 from hsW] at bE
  go_wp2
  clear c0x c0w
  generalize w.alloc (.cells #[.slice A sss.length c, .slice B ccc.length d, .slice C ps.length e] 28) = W0 at *
  rw [← hsW] at oe bE ⊢
  clear hsW
  go_loopw [5, 6, 7, 8, 13, 21] (fun v _ _ _ i _ wr => ∃ (k : Nat) (A' : Option Addr) (c' : Nat), k ≤ sss.length ∧ i = .int .i64 k ∧ v = .slice A' (collTo (blockE sss ccc ps zs) pairG ccc.length k).length c' ∧ (∃ vs, wr.ownsRow W0.heap.size 23 1 (.slice A' (collTo (blockE sss ccc ps zs) pairG ccc.length k).length c') (collTo (blockE sss ccc ps zs) pairG ccc.length k).length vs) ∧ Below W0.heap.size W0 wr) (fun v _ _ _ i _ _ => sss.length - (intOf i).toNat)
  case atStart => exact ⟨0, _, 0, Nat.zero_le _, rfl, rfl, ⟨_, oe⟩, bE⟩
  case round =>
    obtain ⟨i, A1, cc, hi, rfl, rfl, hown, hbo⟩ := hrel
    obtain ⟨wo, rfl⟩ : ∃ wo, wo = wr := ⟨_, rfl⟩
    by_cases hlt : i < sss.length
    · have hln := collTo_len (f := blockE sss ccc ps zs) (g := pairG) (n := ccc.length) (by omega) i
      have HS : Hid (collTo (blockE sss ccc ps zs) (pairG) ccc.length (i + 1) = collTo (blockE sss ccc ps zs) (pairG) ccc.length i ++ coll (blockE sss ccc ps zs i) (pairG i) ccc.length) := rfl
      generalize collTo (blockE sss ccc ps zs) (pairG) ccc.length i = L at *
      have S1 := S0.below hbo
      obtain ⟨b, o, A', c', eb, _, hck0, hcc, hin⟩ := S0.stu.at_ hlt
      cases eb
      have hck := cell_carry hbo hck0
      have c1a := S1.c1
      clear hck0
      obtain ⟨N, hN⟩ : ∃ N, L.length = N := ⟨_, rfl⟩
      have HN := Lib.hid hN
      rw [hN] at hown hln ⊢
      clear hN S1
      go_wp2
      clear c1a hck
      go_loopw [5, 8, 21] (fun v _ k_ wr => ∃ (k : Nat) (A' : Option Addr) (c' : Nat), k ≤ ccc.length ∧ k_ = .int .i64 k ∧ v = .slice A' (N + (coll (blockE sss ccc ps zs i) (pairG i) k).length) c' ∧ (∃ vs, wr.ownsRow W0.heap.size 23 1 (.slice A' (N + (coll (blockE sss ccc ps zs i) (pairG i) k).length) c') (N + (coll (blockE sss ccc ps zs i) (pairG i) k).length) vs) ∧ Below W0.heap.size W0 wr) (fun _ _ k_ _ => ccc.length - (intOf k_).toNat)
      case atStart => exact ⟨0, A1, cc, by omega, rfl, rfl, hown, hbo⟩
      case round =>
        obtain ⟨k, A1, cc, hk, rfl, rfl, hown, hb⟩ := hrel
        have zr := hb.size
        have hlen := coll_len (blockE sss ccc ps zs i) (pairG i) k
        have HY : Hid (blockE sss ccc ps zs i k = true → (coll (blockE sss ccc ps zs i) (pairG i) (k + 1)).length = (coll (blockE sss ccc ps zs i) (pairG i) k).length + 1) := fun h => by rw [coll_yes h]; simp
        have HO : Hid (blockE sss ccc ps zs i k = false → (coll (blockE sss ccc ps zs i) (pairG i) (k + 1)).length = (coll (blockE sss ccc ps zs i) (pairG i) k).length) := fun h => by rw [coll_no h]
        have HZ : Hid (k = ccc.length → N + (coll (blockE sss ccc ps zs i) (pairG i) k).length = (collTo (blockE sss ccc ps zs) (pairG) ccc.length (i + 1)).length) := fun h => by rw [HS.out, List.length_append, h, HN.out]
        obtain ⟨T', hT'⟩ : ∃ T', (coll (blockE sss ccc ps zs i) (pairG i) (k + 1)).length = T' := ⟨_, rfl⟩
        rw [hT'] at HY HO
        have HT' := Lib.hid hT'
        clear hT'
        have hT : N + (coll (blockE sss ccc ps zs i) (pairG i) k).length ≤ 100 := by omega
        clear hlen
        generalize (coll (blockE sss ccc ps zs i) (pairG i) k).length = T at *
        by_cases hkl : k < ccc.length
        · obtain ⟨vs, hown⟩ := hown
          have hb2 := hb
          obtain ⟨c0, c1, c2, stu, col, pla⟩ := S0.below hb
          have z2 := q0.below hb
          obtain ⟨bz, oz, rfl, _, hcz⟩ := z2.at_ (show i < zs.length by omega)
          have zi := hcz i (by omega)
          have hin2 := hin.below hb
          clear hcz
          have i1 : (0 : Int) ≤ (i : Int) := by omega
          have i2 : (i : Int) < (sss.length : Int) := by omega
          have i3 : (i : Int) < (zs.length : Int) := by omega
          have rl : (rx sss i).length ≤ 1099511627776 := by have := rankE_len (FF.out.sch.sr i (by omega)); omega
          by_cases hz0 : ix zs i = k
          · have hblk := Lib.hid (HO.out (blockS_no1 (longsS_same hz0)))
            have t0 : (ix zs i != (k : Int)) = false := by rw [bne_eq_false_iff_eq]; exact hz0
            clear hz0
            generalize ix zs i = own at *
            go_wp2
            go_roundw
            case rel => first | exact ⟨k + 1, _, _, by omega, by go_num, by rw [HT'.out, hblk.out], by rw [HT'.out, hblk.out]; exact ⟨_, hown⟩, hb2⟩ | ((repeat apply Exists.intro); exact ⟨⟨k + 1, _, _, by omega, by go_num, by rw [HT'.out, hblk.out], by rw [HT'.out, hblk.out]; exact ⟨_, hown⟩, hb2⟩, rfl⟩)
            case measure => simp [intOf]; omega
          have t0 : (ix zs i != (k : Int)) = true := by rw [bne_iff_ne]; exact hz0
          by_cases hz : ix zs i < 0
          · have HB2 := blockS_2 (ccc := ccc) (ps := ps) (longsS_neg (sss := sss) (k := k) hz)
            generalize ix zs i = own at *
            go_wp2_with fail
            (with_reducible refine (l21Wants_any _ _ _ _ _ _ _ _ _ _ _ _ _ _ _ _ _ _ _ stu col pla z2 FF.out hkl).mono ?_)
            rintro er w4 ⟨rfl, hb3⟩
            replace hown := ownsRow_belowW hown hb3
            replace hb2 := hb.trans (hb3.mono zr)
            clear hb3 hb stu col pla z2 c0 c1 c2 zi
            obtain ⟨bb, hbb⟩ : ∃ bb, wantsE ccc ps zs k i = bb := ⟨_, rfl⟩
            have hww := HB2.trans hbb
            rw [hbb]
            clear hbb HB2
            cases bb
            · have hblk := Lib.hid (HO.out hww)
              clear hww
              go_wp2
              go_roundw
              case rel => first | exact ⟨k + 1, _, _, by omega, by go_num, by rw [HT'.out, hblk.out], by rw [HT'.out, hblk.out]; exact ⟨_, hown⟩, hb2⟩ | ((repeat apply Exists.intro); exact ⟨⟨k + 1, _, _, by omega, by go_num, by rw [HT'.out, hblk.out], by rw [HT'.out, hblk.out]; exact ⟨_, hown⟩, hb2⟩, rfl⟩)
              case measure => simp [intOf]; omega
            · have hblk := Lib.hid (HY.out hww)
              clear hww
              have hb4 := hb2
              have z4 := hb4.size
              go_wp2_with (at_builtin; refine wpList_append_hdr _ rfl _ _ rfl W0.heap.size (N + T) _ _ vs rfl (ownsRow_belowW (ownsRow_belowW hown ((Below.refl _ _).alloc (Nat.le_refl _) _)) ((Below.refl _ _).alloc (Nat.le_refl _) _)) _ 1 _ rfl (new_cell _ _ _ (by simp)) rfl (by omega) (by simp; omega) ?_)
              intro A2 c2 w5 ho2 hgr hat
              have hbx := (hb4.alloc z4 (.cells #[.int .i64 (i : Int), .int .i64 (k : Int)] 3)).alloc (by simp; omega) (.cells #[.slice (some ⟨w4.heap.size, 0, none⟩) 2 2] 23)
              have hb5 := hbx.grown hgr hbx.size (fun j e => (World.ownsRow.lt hown j e).1)
              have HE5 : Hid (∃ vs, w5.ownsRow W0.heap.size 23 1 (.slice A2 (N + T + 1) c2) (N + T + 1) vs) := ⟨_, ho2⟩
              have HB5 := Lib.hid hb5
              clear hgr hat hb5 ho2 hbx hb4 hown hb2
              go_wp2
              go_roundw
              case rel => first | exact ⟨k + 1, _, _, by omega, by go_num, by rw [HT'.out, hblk.out]; rfl, by rw [HT'.out, hblk.out]; exact HE5.out, HB5.out⟩ | ((repeat apply Exists.intro); exact ⟨⟨k + 1, _, _, by omega, by go_num, by rw [HT'.out, hblk.out]; rfl, by rw [HT'.out, hblk.out]; exact HE5.out, HB5.out⟩, rfl⟩)
              case measure => simp [intOf]; omega
          obtain ⟨bp_, hbp⟩ : ∃ bp_, pref (rx sss i) k (ix zs i) = bp_ := ⟨_, rfl⟩
          have HLG := (longsS_pos (sss := sss) (k := k) hz).trans hbp
          have HPC := Lib.hid (fun W (hW : IntsAt W A' (rx sss i).length (rx sss i)) => specPrefers A' (rx sss i).length c' (rx sss i) (k : Int) (ix zs i) W hW rl)
          rw [hbp] at HPC
          clear hbp
          cases bp_
          · have hblk := Lib.hid (HO.out (blockS_no1 HLG))
            clear HLG
            generalize ix zs i = own at *
            go_wp2_with fail
            (with_reducible refine (HPC.out _ hin2).mono ?_)
            rintro er w3 ⟨rfl, rfl⟩
            go_wp2
            go_roundw
            case rel => first | exact ⟨k + 1, _, _, by omega, by go_num, by rw [HT'.out, hblk.out], by rw [HT'.out, hblk.out]; exact ⟨_, hown⟩, hb2⟩ | ((repeat apply Exists.intro); exact ⟨⟨k + 1, _, _, by omega, by go_num, by rw [HT'.out, hblk.out], by rw [HT'.out, hblk.out]; exact ⟨_, hown⟩, hb2⟩, rfl⟩)
            case measure => simp [intOf]; omega
          · have HB2 := blockS_2 (ccc := ccc) (ps := ps) HLG
            clear HLG
            generalize ix zs i = own at *
            go_wp2_with fail
            (with_reducible refine (HPC.out _ hin2).mono ?_)
            rintro er w3 ⟨rfl, rfl⟩
            go_wp2_with fail
            (with_reducible refine (l21Wants_any _ _ _ _ _ _ _ _ _ _ _ _ _ _ _ _ _ _ _ stu col pla z2 FF.out hkl).mono ?_)
            rintro er w4 ⟨rfl, hb3⟩
            replace hown := ownsRow_belowW hown hb3
            replace hb2 := hb.trans (hb3.mono zr)
            clear hb3 hb stu col pla z2 c0 c1 c2 zi
            obtain ⟨bb, hbb⟩ : ∃ bb, wantsE ccc ps zs k i = bb := ⟨_, rfl⟩
            have hww := HB2.trans hbb
            rw [hbb]
            clear hbb HB2
            cases bb
            · have hblk := Lib.hid (HO.out hww)
              clear hww
              go_wp2
              go_roundw
              case rel => first | exact ⟨k + 1, _, _, by omega, by go_num, by rw [HT'.out, hblk.out], by rw [HT'.out, hblk.out]; exact ⟨_, hown⟩, hb2⟩ | ((repeat apply Exists.intro); exact ⟨⟨k + 1, _, _, by omega, by go_num, by rw [HT'.out, hblk.out], by rw [HT'.out, hblk.out]; exact ⟨_, hown⟩, hb2⟩, rfl⟩)
              case measure => simp [intOf]; omega
            · have hblk := Lib.hid (HY.out hww)
              clear hww
              have hb4 := hb2
              have z4 := hb4.size
              go_wp2_with (at_builtin; refine wpList_append_hdr _ rfl _ _ rfl W0.heap.size (N + T) _ _ vs rfl (ownsRow_belowW (ownsRow_belowW hown ((Below.refl _ _).alloc (Nat.le_refl _) _)) ((Below.refl _ _).alloc (Nat.le_refl _) _)) _ 1 _ rfl (new_cell _ _ _ (by simp)) rfl (by omega) (by simp; omega) ?_)
              intro A2 c2 w5 ho2 hgr hat
              have hbx := (hb4.alloc z4 (.cells #[.int .i64 (i : Int), .int .i64 (k : Int)] 3)).alloc (by simp; omega) (.cells #[.slice (some ⟨w4.heap.size, 0, none⟩) 2 2] 23)
              have hb5 := hbx.grown hgr hbx.size (fun j e => (World.ownsRow.lt hown j e).1)
              have HE5 : Hid (∃ vs, w5.ownsRow W0.heap.size 23 1 (.slice A2 (N + T + 1) c2) (N + T + 1) vs) := ⟨_, ho2⟩
              have HB5 := Lib.hid hb5
              clear hgr hat hb5 ho2 hbx hb4 hown hb2
              go_wp2
              go_roundw
              case rel => first | exact ⟨k + 1, _, _, by omega, by go_num, by rw [HT'.out, hblk.out]; rfl, by rw [HT'.out, hblk.out]; exact HE5.out, HB5.out⟩ | ((repeat apply Exists.intro); exact ⟨⟨k + 1, _, _, by omega, by go_num, by rw [HT'.out, hblk.out]; rfl, by rw [HT'.out, hblk.out]; exact HE5.out, HB5.out⟩, rfl⟩)
              case measure => simp [intOf]; omega
        · obtain rfl : k = ccc.length := by omega
          have EL := Lib.hid (HZ.out rfl)
          rw [EL.out] at hown
          go_wp2
          go_roundw
          case rel => exact ⟨i + 1, _, _, by omega, by go_num, by rw [EL.out], hown, hb⟩
          case measure => simp [intOf]; omega
    · obtain rfl : i = sss.length := by omega
      have hfin := hall.trans (hbo.mono hz0)
      go_wp2
      go_ret
      exact ⟨_, _, rfl, hfin⟩
set_option maxHeartbeats 800000 in
theorem specIsStableEntry (A : Option Addr) (n c : Nat) (sss : List (List Int)) (B : Option Addr) (m d : Nat) (ccc : List (List Int)) (C : Option Addr) (l e : Nat) (ps : List Int) (D : Option Addr) (p r : Nat) (zs : List Int) (w : World) (h : RowsAt w A n sss) (hn : n ≤ 1048576) (hx : ∀ xs ∈ sss, xs.length ≤ 1048576)
    (g : RowsAt w B m ccc) (hm : m ≤ 1048576) (hy : ∀ xs ∈ ccc, xs.length ≤ 1048576) (q : IntsAt w C l ps) (hl : l ≤ 1048576) (z : IntsAt w D p zs) (hp : p ≤ 1048576) :
    Calls Try.prog 22 #[.agg #[.slice A n c, .slice B m d, .slice C l e], .slice D p r] w fun r w' => r = .returned (.bool (stableE sss ccc ps zs)) ∧ Below w.heap.size w w' := by
  obtain rfl := h.len
  obtain rfl := g.len
  obtain rfl := q.len
  obtain rfl := z.len
  have HX := Lib.hid hx
  have HY := Lib.hid hy
  clear hx hy
  have hall := triple_below w (.slice A sss.length c) (.slice B ccc.length d) (.slice C ps.length e) 28
  have hz0 := hall.size
  have S0 := SchAt.new h g q (c := c) (d := d) (e := e) 28
  obtain ⟨c0, c1, c2, h0, g0, q0⟩ := S0
  have S0 : SchAt (w.alloc (.cells #[.slice A sss.length c, .slice B ccc.length d, .slice C ps.length e] 28)) _ _ _ _ _ _ _ _ _ _ _ _ _ := ⟨c0, c1, c2, h0, g0, q0⟩
  have z0 := z.below hall
  cases h1 : entryOk sss ccc ps zs
  · have e1 : stableE sss ccc ps zs = false := by unfold stableE; rw [h1]; rfl
    rw [e1]
    clear e1
    go_enter Try.func22, Try.ntmps22
    go_wp2_with fail
    (with_reducible refine (specEntryOk _ _ _ _ _ _ _ _ _ _ _ _ _ _ _ _ _ h0 hn HX.out g0 hm HY.out q0 hl z0 hp).mono ?_)
    rintro er w1 ⟨rfl, hb⟩
    rw [h1]
    have b1 := hall.trans (hb.mono hz0)
    clear hb S0 hall hz0 c0 c1 c2 h0 g0 q0 z0
    go_wp2
    go_ret
    exact ⟨rfl, b1⟩
  have FE := Lib.hid (entry_facts h1)
  have e1 : stableE sss ccc ps zs = ((blocksE sss ccc ps zs).length == 0) := by unfold stableE; rw [h1]; rfl
  have e2 : (((blocksE sss ccc ps zs).length : Int) == 0) = ((blocksE sss ccc ps zs).length == 0) := by
    rw [Bool.eq_iff_iff, beq_iff_eq, beq_iff_eq]; omega
  rw [e1, ← e2]
  have E2 := Lib.hid e2
  clear e1 e2
  have HB := Lib.hid (fun W hW hG hQ hZ => l21BlocksE_any A sss.length c sss B ccc.length d ccc C ps.length e ps D zs.length r zs W hW hG hQ hZ FE.out)
  generalize (blocksE sss ccc ps zs).length = N at *
  go_enter Try.func22, Try.ntmps22
  go_wp2_with fail
  (with_reducible refine (specEntryOk _ _ _ _ _ _ _ _ _ _ _ _ _ _ _ _ _ h0 hn HX.out g0 hm HY.out q0 hl z0 hp).mono ?_)
  rintro er w1 ⟨rfl, hb⟩
  rw [h1]
  have S1 := S0.below hb
  have z1 := z0.below hb
  have b1 := hall.trans (hb.mono hz0)
  have s1 := b1.size
  clear hb S0 hall hz0 c0 c1 c2 h0 g0 q0 z0
  obtain ⟨c0, c1, c2, h0, g0, q0⟩ := S1
  go_wp2_with fail
  (with_reducible refine (HB.out _ h0 g0 q0 z1).mono ?_)
  rintro er w3 ⟨A3, c3, rfl, hb⟩
  have b3 := b1.trans (hb.mono s1)
  clear hb b1 c0 c1 c2 h0 g0 q0 z1
  go_wp2
  go_ret
  exact ⟨rfl, b3⟩
end Go.Proofs.Ytmakbndlobaaaaa
