/- The pairs that block a matching. -/
import Derived.Test.YtnoanomihifobaaMkt
import Derived.Test.YtnoanomihifobaaColl
namespace Go.Proofs.Ytnoanomihifobaa
set_option linter.unusedVariables false
open Go.RowKit

/-- man i and woman v would rather have each other -/
def blockF (xss yss : List (List Int)) (zs : List Int) (i v : Nat) : Bool := pref (rx xss i) v (ix zs i) && pref (rx yss v) i (place zs v)
def blocksM (xss yss : List (List Int)) (zs : List Int) : List (List Int) := collTo (blockF xss yss zs) pairG zs.length zs.length
/-- as the reference has it: each man's women in the order of his list -/
def blockS (xss yss : List (List Int)) (zs : List Int) (i k : Nat) : Bool := blockF xss yss zs i (ix (rx xss i) k).toNat
def pairS (xss : List (List Int)) (i k : Nat) : List Int := pairG i (ix (rx xss i) k).toNat
def blocksS (xss yss : List (List Int)) (zs : List Int) : List (List Int) := collTo (blockS xss yss zs) (pairS xss) zs.length zs.length
theorem blockF_1 {xss yss : List (List Int)} {zs : List Int} {i v : Nat} (h : pref (rx xss i) v (ix zs i) = false) : blockF xss yss zs i v = false := by unfold blockF; rw [h]; rfl
theorem blockF_2 {xss yss : List (List Int)} {zs : List Int} {i v : Nat} (h : pref (rx yss v) i (place zs v) = false) : blockF xss yss zs i v = false := by unfold blockF; rw [h]; simp
theorem blockF_3 {xss yss : List (List Int)} {zs : List Int} {i v : Nat} (h1 : pref (rx xss i) v (ix zs i) = true) (h2 : pref (rx yss v) i (place zs v) = true) : blockF xss yss zs i v = true := by unfold blockF; rw [h1, h2]; rfl
theorem coll_zero {f : Nat → Bool} {g : Nat → List Int} {k : Nat} : (coll f g k).length = 0 ↔ ∀ j, j < k → f j = false := by
  constructor
  · intro h j hj
    cases hf : f j
    · rfl
    · exfalso
      have : ∀ k, j < k → 0 < (coll f g k).length := by
        intro k
        induction k with
        | zero => omega
        | succ k ih =>
          intro hk
          simp only [coll]
          by_cases e : j = k
          · subst e; rw [if_pos hf]; simp
          · have := ih (by omega)
            split
            · simp
            · exact this
      have := this k hj
      omega
  · intro h; rw [coll_none h]; rfl
theorem collTo_zero {f : Nat → Nat → Bool} {g : Nat → Nat → List Int} {n i : Nat} : (collTo f g n i).length = 0 ↔ ∀ a b, a < i → b < n → f a b = false := by
  induction i with
  | zero => simp [collTo]
  | succ i ih =>
    rw [collTo, List.length_append]
    constructor
    · intro h a b ha hb
      by_cases e : a = i
      · subst e; exact (coll_zero (g := g a)).1 (by omega) b hb
      · exact ih.1 (by omega) a b (by omega) hb
    · intro h
      rw [ih.2 (fun a b ha hb => h a b (by omega) hb), coll_zero.2 (fun b hb => h i b (by omega) hb)]
theorem blocks_same {xss yss : List (List Int)} {zs : List Int} (F : MatchF xss yss zs) : ((blocksS xss yss zs).length == 0) = ((blocksM xss yss zs).length == 0) := by
  have zl := F.zl
  unfold blocksS blocksM
  rw [Bool.eq_iff_iff, beq_iff_eq, beq_iff_eq, collTo_zero, collTo_zero]
  constructor
  · intro h a b ha hb
    have hp := rank_has (F.mr a (by omega)) (x := (b : Int)) (by omega) (by omega)
    obtain ⟨k, hk, e⟩ := List.getElem_of_mem hp
    have hl := rank_len (F.mr a (by omega))
    have := h a k ha (by omega)
    unfold blockS at this
    rw [ix_lt hk, e] at this
    simpa using this
  · intro h a k ha hk
    have hl := rank_len (F.mr a (by omega))
    have := (rankOk_facts (F.mr a (by omega))).2.2.2 k (by omega)
    unfold blockS
    exact h a _ ha (by omega)
theorem blocksM_row {xss yss : List (List Int)} {zs : List Int} : ∀ x ∈ blocksM xss yss zs, x.length ≤ 1048576 := by
  intro x hx
  obtain ⟨a, b, _, _, _, rfl⟩ := collTo_mem hx
  simp [pairG]
theorem blocksM_len {xss yss : List (List Int)} {zs : List Int} (h : zs.length ≤ 6) : (blocksM xss yss zs).length ≤ 60 := by
  have := collTo_len (f := blockF xss yss zs) (g := pairG) (n := zs.length) (by omega) zs.length
  unfold blocksM; omega
theorem blocksS_len {xss yss : List (List Int)} {zs : List Int} (h : zs.length ≤ 6) : (blocksS xss yss zs).length ≤ 60 := by
  have := collTo_len (f := blockS xss yss zs) (g := pairS xss) (n := zs.length) (by omega) zs.length
  unfold blocksS; omega
set_option maxRecDepth 100000 in
set_option maxHeartbeats 4000000 in
theorem blocks_any (A : Option Addr) (n c : Nat) (xss : List (List Int)) (B : Option Addr) (m d : Nat) (yss : List (List Int)) (C : Option Addr) (l e : Nat) (zs : List Int) (w : World) (h : RowsAt w A n xss)
    (g : RowsAt w B m yss) (q : IntsAt w C l zs) (F : MatchF xss yss zs) :
    Calls Try.prog 26 #[.agg #[.slice A n c, .slice B m d], .slice C l e] w fun e w' => ∃ A' c', e = .returned (.slice A' (blocksM xss yss zs).length c') ∧ OwnR w' w.heap.size w'.heap.size (.slice A' (blocksM xss yss zs).length c') (blocksM xss yss zs) ∧ Below w.heap.size w w' := by
  obtain rfl := h.len
  obtain rfl := g.len
  obtain rfl := q.len
  have FF := Lib.hid F
  have f1 := F.hi
  have f2 := F.lo
  have fz1 := Nat.le_of_eq F.zl
  have fz2 := Nat.le_of_eq F.zl.symm
  have fw1 := Nat.le_of_eq F.wl
  have fw2 := Nat.le_of_eq F.wl.symm
  have hall := pair_below w (.slice A xss.length c) (.slice B yss.length d) 27
  have hz0 := hall.size
  have M0 := MktAt.new h g (c := c) (d := d) 27
  have q0 := q.below hall
  clear F
  unfold blocksM
  go_enter Try.func26, Try.ntmps26
  go_wp2
  generalize w.alloc (.cells #[.slice A xss.length c, .slice B yss.length d] 27) = W0 at *
  go_loopw [5, 6, 7, 8, 11, 18] (fun v _ _ _ i _ wr => ∃ (k : Nat) (A' : Option Addr) (c' : Nat), k ≤ zs.length ∧ i = .int .i64 k ∧ v = .slice A' (collTo (blockF xss yss zs) (pairG) zs.length k).length c' ∧ OwnR wr W0.heap.size wr.heap.size (.slice A' (collTo (blockF xss yss zs) (pairG) zs.length k).length c') (collTo (blockF xss yss zs) (pairG) zs.length k) ∧ Below W0.heap.size W0 wr) (fun v _ _ _ i _ _ => zs.length - (intOf i).toNat)
  case atStart => exact ⟨0, none, 0, Nat.zero_le _, rfl, rfl, OwnR.nil _ _ _, Below.refl _ _⟩
  case round =>
    obtain ⟨i, A1, cc, hi, rfl, rfl, hown, hbo⟩ := hrel
    obtain ⟨wo, rfl⟩ : ∃ wo, wo = wr := ⟨_, rfl⟩
    by_cases hlt : i < zs.length
    · have hln := collTo_len (f := blockF xss yss zs) (g := pairG) (n := zs.length) (by omega) i
      have HS : Hid (collTo (blockF xss yss zs) (pairG) zs.length (i + 1) = collTo (blockF xss yss zs) (pairG) zs.length i ++ coll (blockF xss yss zs i) (pairG i) zs.length) := rfl
      generalize collTo (blockF xss yss zs) (pairG) zs.length i = L at *
      obtain ⟨by_, oy, ey, _, hcy⟩ := (q0.below hbo).at_ hlt
      cases ey
      have yi := hcy i hlt
      clear hcy
      go_wp2
      clear yi
      go_loopw [5, 8, 18] (fun v _ k_ wr => ∃ (k : Nat) (A' : Option Addr) (c' : Nat), k ≤ zs.length ∧ k_ = .int .i64 k ∧ v = .slice A' (L ++ coll (blockF xss yss zs i) (pairG i) k).length c' ∧ OwnR wr W0.heap.size wr.heap.size (.slice A' (L ++ coll (blockF xss yss zs i) (pairG i) k).length c') (L ++ coll (blockF xss yss zs i) (pairG i) k) ∧ Below W0.heap.size W0 wr) (fun v _ k_ _ => zs.length - (intOf k_).toNat)
      case atStart => exact ⟨0, A1, cc, by omega, rfl, by rw [coll, List.append_nil], by rw [coll, List.append_nil]; exact hown, hbo⟩
      case round =>
        obtain ⟨k, A1, cc, hk, rfl, rfl, hown, hb⟩ := hrel
        have zr := hb.size
        have hlen := coll_len (blockF xss yss zs i) (pairG i) k
        have hlen2 : (L ++ coll (blockF xss yss zs i) (pairG i) k).length ≤ 100 := by rw [List.length_append]; omega
        have HY : Hid (blockF xss yss zs i k = true → L ++ coll (blockF xss yss zs i) (pairG i) (k + 1) = (L ++ coll (blockF xss yss zs i) (pairG i) k) ++ [pairG i k]) := fun h => by rw [coll_yes h, List.append_assoc]
        have HO : Hid (blockF xss yss zs i k = false → L ++ coll (blockF xss yss zs i) (pairG i) (k + 1) = L ++ coll (blockF xss yss zs i) (pairG i) k) := fun h => by rw [coll_no h]
        have HZ : Hid (k = zs.length → L ++ coll (blockF xss yss zs i) (pairG i) k = collTo (blockF xss yss zs) (pairG) zs.length (i + 1)) := fun h => by rw [HS.out, h]
        clear hlen
        generalize L ++ coll (blockF xss yss zs i) (pairG i) k = T at *
        by_cases hkl : k < zs.length
        · obtain ⟨d0, d1, mm, ww⟩ := M0.below hb
          obtain ⟨b, o, A', c', rfl, _, hck, hcc, hin⟩ := mm.at_ (show i < xss.length by omega)
          obtain ⟨b', o', B', d', rfl, _, hck', hcc', hin'⟩ := ww.at_ (show k < yss.length by omega)
          have q2 := q0.below hb
          obtain ⟨bz, oz, ez, _, hcz⟩ := q2.at_ hlt
          cases ez
          have zi := hcz i hlt
          clear hcz mm ww
          have i1 : (0 : Int) ≤ (i : Int) := by omega
          have i2 : (i : Int) < (xss.length : Int) := by omega
          have i3 : (i : Int) < (zs.length : Int) := by omega
          have k1 : (0 : Int) ≤ (k : Int) := by omega
          have k2 : (k : Int) < (yss.length : Int) := by omega
          have k3 : (k : Int) < (zs.length : Int) := by omega
          have rl : (rx xss i).length ≤ 1099511627776 := by have := rank_len (FF.out.mr i (by omega)); omega
          have rl' : (rx yss k).length ≤ 1099511627776 := by have := rank_len (FF.out.wr k (by omega)); omega
          have K1 := Lib.hid (fun n => Calls.quiet_of_same (n := n) ((implPrefers _ _ c' _ (k : Int) (ix zs i) _ (hin.drewN n) rl).mono fun _ _ ⟨he, hw⟩ => ⟨he, hw.symm⟩))
          have K2 := Lib.hid (fun n => Calls.quiet_of_same (n := n) ((index_any _ _ e _ (k : Int) _ (q2.drewN n) (by omega)).mono fun _ _ ⟨he, hw⟩ => ⟨he, hw.symm⟩))
          have K3 := Lib.hid (fun n => Calls.quiet_of_same (n := n) ((implPrefers _ _ d' _ (i : Int) (place zs k) _ (hin'.drewN n) rl').mono fun _ _ ⟨he, hw⟩ => ⟨he, hw.symm⟩))
          cases hp : pref (rx xss i) k (ix zs i)
          · have HN := Lib.hid (HO.out (blockF_1 hp))
            rw [hp] at K1
            go_wp2
            go_quiet ((first | (with_reducible exact K1.out _) | (with_reducible exact K2.out _) | (with_reducible exact K3.out _)))
            go_wp2
            go_roundw
            case rel => exact ⟨k + 1, _, _, by omega, by go_num, by rw [HN.out], by rw [HN.out]; exact hown, hb.trans (below_of_drewN rfl)⟩
            case measure => simp [intOf]; omega
          rw [hp] at K1
          cases hp2 : pref (rx yss k) i (place zs k)
          · have HN := Lib.hid (HO.out (blockF_2 hp2))
            rw [hp2] at K3
            clear hp
            go_wp2
            go_quiet ((first | (with_reducible exact K1.out _) | (with_reducible exact K2.out _) | (with_reducible exact K3.out _)))
            go_wp2
            go_roundw
            case rel => exact ⟨k + 1, _, _, by omega, by go_num, by rw [HN.out], by rw [HN.out]; exact hown, hb.trans (below_of_drewN rfl)⟩
            case measure => simp [intOf]; omega
          · have HN := Lib.hid (HY.out (blockF_3 hp hp2))
            rw [hp2] at K3
            clear hp hp2
            go_wp2
            go_quiet ((first | (with_reducible exact K1.out _) | (with_reducible exact K2.out _) | (with_reducible exact K3.out _)))
            have b5 : Below W0.heap.size W0 (wr.drewN nq) := hb.trans (below_of_drewN rfl)
            have o5 : OwnR (wr.drewN nq) W0.heap.size (wr.drewN nq).heap.size (.slice A1 T.length cc) T := hown
            have z5 : W0.heap.size ≤ (wr.drewN nq).heap.size := zr
            clear hown hb zr hck hck' zi hin hin' K1 K2 K3 d0 d1 q2
            generalize wr.drewN nq = w5 at *
            go_wp2_with (at_builtin; refine wpList_append_row _ rfl _ _ rfl W0.heap.size w5.heap.size T.length _ _ _ rfl ((o5.alloc _).alloc _) (some ⟨w5.heap.size, 0, none⟩) 2 2 [(i : Int), (k : Int)] w5.heap.size (w5.heap.size + 1) ((OwnI.lit2 w5 (i : Int) (k : Int)).alloc _) (Nat.le_refl _) (by simp) _ 1 rfl (new_cell _ _ _ (by simp)) (by omega) z5 (by simp; omega) ?_)
            intro A2 c2 w2 ho2 hon
            have hb2 := ((b5.alloc z5 (.cells #[.int .i64 (i : Int), .int .i64 (k : Int)] 3)).alloc (by simp; omega) (.cells #[.slice (some ⟨w5.heap.size, 0, none⟩) 2 2] 38)).trans (hon.toBelow (Nat.le_refl _) (by simp; omega))
            have e : T ++ [[(i : Int), (k : Int)]] = L ++ coll (blockF xss yss zs i) (pairG i) (k + 1) := by rw [HN.out]; rfl
            have el : T.length + 1 = (L ++ coll (blockF xss yss zs i) (pairG i) (k + 1)).length := by rw [← e]; simp
            rw [e] at ho2
            rw [el] at ho2
            have EL := Lib.hid el
            clear hon e el b5 o5
            go_wp2
            go_roundw
            case rel => first | exact ⟨k + 1, _, _, by omega, by go_num, by rw [← EL.out], ho2, hb2⟩ | ((repeat apply Exists.intro); exact ⟨⟨k + 1, _, _, by omega, by go_num, by rw [← EL.out], ho2, hb2⟩, rfl⟩)
            case measure => simp [intOf]; omega
        · obtain rfl : k = zs.length := by omega
          have EL : Hid (T = collTo (blockF xss yss zs) (pairG) zs.length (i + 1)) := HZ.out rfl
          go_wp2
          go_roundw
          case rel => exact ⟨i + 1, _, _, by omega, by go_num, by rw [EL.out], EL.out ▸ hown, hb⟩
          case measure => simp [intOf]; omega
    · obtain rfl : i = zs.length := by omega
      have hfin := hall.trans (hbo.mono hz0)
      go_wp2
      go_ret
      exact ⟨_, _, rfl, hown.mono hz0 (Nat.le_refl _), hfin⟩
set_option maxRecDepth 100000 in
set_option maxHeartbeats 4000000 in
theorem l17Blocks_any (A : Option Addr) (n c : Nat) (xss : List (List Int)) (B : Option Addr) (m d : Nat) (yss : List (List Int)) (C : Option Addr) (l e : Nat) (zs : List Int) (w : World) (h : RowsAt w A n xss)
    (g : RowsAt w B m yss) (q : IntsAt w C l zs) (F : MatchF xss yss zs) :
    Calls Try.prog 23 #[.agg #[.slice A n c, .slice B m d], .slice C l e] w fun e w' => ∃ A' c', e = .returned (.slice A' (blocksS xss yss zs).length c') ∧ OwnR w' w.heap.size w'.heap.size (.slice A' (blocksS xss yss zs).length c') (blocksS xss yss zs) ∧ Below w.heap.size w w' := by
  obtain rfl := h.len
  obtain rfl := g.len
  obtain rfl := q.len
  have FF := Lib.hid F
  have f1 := F.hi
  have f2 := F.lo
  have fz1 := Nat.le_of_eq F.zl
  have fz2 := Nat.le_of_eq F.zl.symm
  have fw1 := Nat.le_of_eq F.wl
  have fw2 := Nat.le_of_eq F.wl.symm
  have hall := pair_below w (.slice A xss.length c) (.slice B yss.length d) 27
  have hz0 := hall.size
  have M0 := MktAt.new h g (c := c) (d := d) 27
  have q0 := q.below hall
  clear F
  unfold blocksS
  go_enter Try.func23, Try.ntmps23
  go_wp2
  have oe := OwnR.empty (w.alloc (.cells #[.slice A xss.length c, .slice B yss.length d] 27)) (lo := (w.alloc (.cells #[.slice A xss.length c, .slice B yss.length d] 27)).heap.size) (hi := ((w.alloc (.cells #[.slice A xss.length c, .slice B yss.length d] 27)).alloc (.cells #[] 38)).heap.size) (Nat.le_refl _) (by simp)
  have hsW : (w.alloc (.cells #[.slice A xss.length c, .slice B yss.length d] 27)).heap.size = w.heap.size + 1 := World.size_alloc _ _
  replace oe : OwnR ((w.alloc (.cells #[.slice A xss.length c, .slice B yss.length d] 27)).alloc (.cells #[] 38)) (w.alloc (.cells #[.slice A xss.length c, .slice B yss.length d] 27)).heap.size ((w.alloc (.cells #[.slice A xss.length c, .slice B yss.length d] 27)).alloc (.cells #[] 38)).heap.size (.slice (some ⟨w.heap.size + 1, 0, none⟩) 0 0) [] := by rw [← hsW]; exact oe
  clear hsW
  have bE : Below (w.alloc (.cells #[.slice A xss.length c, .slice B yss.length d] 27)).heap.size (w.alloc (.cells #[.slice A xss.length c, .slice B yss.length d] 27)) ((w.alloc (.cells #[.slice A xss.length c, .slice B yss.length d] 27)).alloc (.cells #[] 38)) := (Below.refl _ _).alloc (Nat.le_refl _) _
  generalize w.alloc (.cells #[.slice A xss.length c, .slice B yss.length d] 27) = W0 at *
  go_loopw [5, 6, 7, 9, 14, 21] (fun v _ _ _ i _ wr => ∃ (k : Nat) (A' : Option Addr) (c' : Nat), k ≤ zs.length ∧ i = .int .i64 k ∧ v = .slice A' (collTo (blockS xss yss zs) (pairS xss) zs.length k).length c' ∧ OwnR wr W0.heap.size wr.heap.size (.slice A' (collTo (blockS xss yss zs) (pairS xss) zs.length k).length c') (collTo (blockS xss yss zs) (pairS xss) zs.length k) ∧ Below W0.heap.size W0 wr) (fun v _ _ _ i _ _ => zs.length - (intOf i).toNat)
  case atStart => exact ⟨0, _, 0, Nat.zero_le _, rfl, rfl, oe, bE⟩
  case round =>
    obtain ⟨i, A1, cc, hi, rfl, rfl, hown, hbo⟩ := hrel
    obtain ⟨wo, rfl⟩ : ∃ wo, wo = wr := ⟨_, rfl⟩
    by_cases hlt : i < zs.length
    · have hln := collTo_len (f := blockS xss yss zs) (g := pairS xss) (n := zs.length) (by omega) i
      have HS : Hid (collTo (blockS xss yss zs) (pairS xss) zs.length (i + 1) = collTo (blockS xss yss zs) (pairS xss) zs.length i ++ coll (blockS xss yss zs i) (pairS xss i) zs.length) := rfl
      generalize collTo (blockS xss yss zs) (pairS xss) zs.length i = L at *
      have i0 : i < xss.length := by omega
      obtain ⟨b_, o_, A_, c_, eb, _, hck_, hcc_, hin_⟩ := h.at_ (show i < xss.length by omega)
      cases eb
      have hb0 := hall.trans (hbo.mono hz0)
      have kr := cell_carry hb0 hck_
      have d0 := (M0.below hbo).c0
      have re1 : (rx xss i).length ≤ zs.length := by have := rank_len (FF.out.mr i (by omega)); omega
      have re2 : zs.length ≤ (rx xss i).length := by have := rank_len (FF.out.mr i (by omega)); omega
      clear hck_ hb0
      go_wp2
      clear kr d0
      go_loopw [5, 9, 21] (fun v _ k_ wr => ∃ (k : Nat) (A' : Option Addr) (c' : Nat), k ≤ zs.length ∧ k_ = .int .i64 k ∧ v = .slice A' (L ++ coll (blockS xss yss zs i) (pairS xss i) k).length c' ∧ OwnR wr W0.heap.size wr.heap.size (.slice A' (L ++ coll (blockS xss yss zs i) (pairS xss i) k).length c') (L ++ coll (blockS xss yss zs i) (pairS xss i) k) ∧ Below W0.heap.size W0 wr) (fun v _ k_ _ => zs.length - (intOf k_).toNat)
      case atStart => exact ⟨0, A1, cc, by omega, rfl, by rw [coll, List.append_nil], by rw [coll, List.append_nil]; exact hown, hbo⟩
      case round =>
        obtain ⟨k, A1, cc, hk, rfl, rfl, hown, hb⟩ := hrel
        have zr := hb.size
        have hlen := coll_len (blockS xss yss zs i) (pairS xss i) k
        have hlen2 : (L ++ coll (blockS xss yss zs i) (pairS xss i) k).length ≤ 100 := by rw [List.length_append]; omega
        have HY : Hid (blockS xss yss zs i k = true → L ++ coll (blockS xss yss zs i) (pairS xss i) (k + 1) = (L ++ coll (blockS xss yss zs i) (pairS xss i) k) ++ [pairS xss i k]) := fun h => by rw [coll_yes h, List.append_assoc]
        have HO : Hid (blockS xss yss zs i k = false → L ++ coll (blockS xss yss zs i) (pairS xss i) (k + 1) = L ++ coll (blockS xss yss zs i) (pairS xss i) k) := fun h => by rw [coll_no h]
        have HZ : Hid (k = zs.length → L ++ coll (blockS xss yss zs i) (pairS xss i) k = collTo (blockS xss yss zs) (pairS xss) zs.length (i + 1)) := fun h => by rw [HS.out, h]
        clear hlen
        generalize L ++ coll (blockS xss yss zs i) (pairS xss i) k = T at *
        by_cases hkl : k < zs.length
        · obtain ⟨d0, d1, mm, ww⟩ := M0.below hb
          have hin := hin_.below (hall.trans (hb.mono hz0))
          obtain ⟨be, oe_, ee, _, hce⟩ := hin.at_ (show k < (rx xss i).length by omega)
          cases ee
          obtain ⟨v, ev⟩ : ∃ v : Nat, ix (rx xss i) k = (v : Int) := ⟨(ix (rx xss i) k).toNat, by have := (rankOk_facts (FF.out.mr i (by omega))).2.2.2 k (by omega); omega⟩
          have hv : v < zs.length := by have := (rankOk_facts (FF.out.mr i (by omega))).2.2.2 k (by omega); omega
          have ke := hce k (show k < (rx xss i).length by omega)
          rw [ev] at ke
          have HBS : Hid (blockS xss yss zs i k = blockF xss yss zs i v) := by show _ = _; unfold blockS; rw [ev]; rfl
          have HPS : Hid (pairS xss i k = [(i : Int), (v : Int)]) := by show _ = _; unfold pairS; rw [ev]; rfl
          clear hce ev
          obtain ⟨b', o', B', d', rfl, _, hck', hcc', hin'⟩ := ww.at_ (show v < yss.length by omega)
          have q2 := q0.below hb
          obtain ⟨bz, oz, ez, _, hcz⟩ := q2.at_ hlt
          cases ez
          have zi := hcz i hlt
          clear hcz mm ww
          have i1 : (0 : Int) ≤ (i : Int) := by omega
          have i2 : (i : Int) < (xss.length : Int) := by omega
          have i3 : (i : Int) < (zs.length : Int) := by omega
          have k1 : (0 : Int) ≤ (v : Int) := by omega
          have k2 : (v : Int) < (yss.length : Int) := by omega
          have k3 : (k : Int) < (zs.length : Int) := by omega
          have rl : (rx xss i).length ≤ 1099511627776 := by have := rank_len (FF.out.mr i (by omega)); omega
          have rl' : (rx yss v).length ≤ 1099511627776 := by have := rank_len (FF.out.wr v (by omega)); omega
          have K1 := Lib.hid (fun n => Calls.quiet_of_same (n := n) ((specPrefers _ _ c_ _ (v : Int) (ix zs i) _ (hin.drewN n) rl).mono fun _ _ ⟨he, hw⟩ => ⟨he, hw.symm⟩))
          have K2 := Lib.hid (fun n => Calls.quiet_of_same (n := n) ((specPlaceOf_any _ _ e _ (v : Int) _ (q2.drewN n) (by omega)).mono fun _ _ ⟨he, hw⟩ => ⟨he, hw.symm⟩))
          have K3 := Lib.hid (fun n => Calls.quiet_of_same (n := n) ((specPrefers _ _ d' _ (i : Int) (place zs v) _ (hin'.drewN n) rl').mono fun _ _ ⟨he, hw⟩ => ⟨he, hw.symm⟩))
          by_cases hz : (v : Int) = ix zs i
          · have e1 : ((v : Int) != ix zs i) = false := by rw [bne_eq_false_iff_eq]; exact hz
            have HN := Lib.hid (HO.out (HBS.out.trans (blockF_1 (by rw [← hz]; exact pref_same _ _))))
            clear hz
            go_wp2
            go_quiet (fail)
            go_wp2
            go_roundw
            case rel => exact ⟨k + 1, _, _, by omega, by go_num, by rw [HN.out], by rw [HN.out]; exact hown, hb.trans (below_of_drewN rfl)⟩
            case measure => simp [intOf]; omega
          have e1 : ((v : Int) != ix zs i) = true := by rw [bne_iff_ne]; exact hz
          clear hz
          cases hp : pref (rx xss i) v (ix zs i)
          · have HN := Lib.hid (HO.out (HBS.out.trans (blockF_1 hp)))
            rw [hp] at K1
            go_wp2
            go_quiet ((first | (with_reducible exact K1.out _) | (with_reducible exact K2.out _) | (with_reducible exact K3.out _)))
            go_wp2
            go_roundw
            case rel => exact ⟨k + 1, _, _, by omega, by go_num, by rw [HN.out], by rw [HN.out]; exact hown, hb.trans (below_of_drewN rfl)⟩
            case measure => simp [intOf]; omega
          rw [hp] at K1
          cases hp2 : pref (rx yss v) i (place zs v)
          · have HN := Lib.hid (HO.out (HBS.out.trans (blockF_2 hp2)))
            rw [hp2] at K3
            clear hp
            go_wp2
            go_quiet ((first | (with_reducible exact K1.out _) | (with_reducible exact K2.out _) | (with_reducible exact K3.out _)))
            go_wp2
            go_roundw
            case rel => exact ⟨k + 1, _, _, by omega, by go_num, by rw [HN.out], by rw [HN.out]; exact hown, hb.trans (below_of_drewN rfl)⟩
            case measure => simp [intOf]; omega
          · have HN := Lib.hid (HY.out (HBS.out.trans (blockF_3 hp hp2)))
            rw [hp2] at K3
            clear hp hp2
            go_wp2
            go_quiet ((first | (with_reducible exact K1.out _) | (with_reducible exact K2.out _) | (with_reducible exact K3.out _)))
            have b5 : Below W0.heap.size W0 (wr.drewN nq) := hb.trans (below_of_drewN rfl)
            have o5 : OwnR (wr.drewN nq) W0.heap.size (wr.drewN nq).heap.size (.slice A1 T.length cc) T := hown
            have z5 : W0.heap.size ≤ (wr.drewN nq).heap.size := zr
            clear hown hb zr hck' zi hin hin' K1 K2 K3 d0 d1 q2
            generalize wr.drewN nq = w5 at *
            go_wp2_with (at_builtin; refine wpList_append_row _ rfl _ _ rfl W0.heap.size w5.heap.size T.length _ _ _ rfl ((o5.alloc _).alloc _) (some ⟨w5.heap.size, 0, none⟩) 2 2 [(i : Int), (v : Int)] w5.heap.size (w5.heap.size + 1) ((OwnI.lit2 w5 (i : Int) (v : Int)).alloc _) (Nat.le_refl _) (by simp) _ 1 rfl (new_cell _ _ _ (by simp)) (by omega) z5 (by simp; omega) ?_)
            intro A2 c2 w2 ho2 hon
            have hb2 := ((b5.alloc z5 (.cells #[.int .i64 (i : Int), .int .i64 (v : Int)] 3)).alloc (by simp; omega) (.cells #[.slice (some ⟨w5.heap.size, 0, none⟩) 2 2] 38)).trans (hon.toBelow (Nat.le_refl _) (by simp; omega))
            have e : T ++ [[(i : Int), (v : Int)]] = L ++ coll (blockS xss yss zs i) (pairS xss i) (k + 1) := by rw [HN.out, HPS.out]
            have el : T.length + 1 = (L ++ coll (blockS xss yss zs i) (pairS xss i) (k + 1)).length := by rw [← e]; simp
            rw [e] at ho2
            rw [el] at ho2
            have EL := Lib.hid el
            clear hon e el b5 o5
            go_wp2
            go_roundw
            case rel => first | exact ⟨k + 1, _, _, by omega, by go_num, by rw [← EL.out], ho2, hb2⟩ | ((repeat apply Exists.intro); exact ⟨⟨k + 1, _, _, by omega, by go_num, by rw [← EL.out], ho2, hb2⟩, rfl⟩)
            case measure => simp [intOf]; omega
        · obtain rfl : k = zs.length := by omega
          have EL : Hid (T = collTo (blockS xss yss zs) (pairS xss) zs.length (i + 1)) := HZ.out rfl
          go_wp2
          go_roundw
          case rel => exact ⟨i + 1, _, _, by omega, by go_num, by rw [EL.out], EL.out ▸ hown, hb⟩
          case measure => simp [intOf]; omega
    · obtain rfl : i = zs.length := by omega
      have hfin := hall.trans (hbo.mono hz0)
      go_wp2
      go_ret
      exact ⟨_, _, rfl, hown.mono hz0 (Nat.le_refl _), hfin⟩
/-- nobody would rather have another one -/
def stableM (xss yss : List (List Int)) (zs : List Int) : Bool := matchOk xss yss zs && ((blocksM xss yss zs).length == 0)
end Go.Proofs.Ytnoanomihifobaa
