/- The next woman of a man in a stable matching. -/
import Derived.Test.YtgehbpeeljifnaaMBlocks
import Derived.IntWalk
namespace Go.Proofs.Ytgehbpeeljifnaa
set_option linter.unusedVariables false
open Go.RowKit

def nextP (yss : List (List Int)) (zs : List Int) (i : Nat) (v : Int) : Bool := pref (rx yss v.toNat) i (place zs v)
/-- the first woman behind his own one in his list who would rather have him -/
def nextW (xss yss : List (List Int)) (zs : List Int) (i : Nat) : Int :=
  if 0 ≤ idxP (nextP yss zs i) (rx xss i) ((place (rx xss i) (ix zs i)).toNat + 1) then ix (rx xss i) (idxP (nextP yss zs i) (rx xss i) ((place (rx xss i) (ix zs i)).toNat + 1)).toNat else -1
def nextWoman (xss yss : List (List Int)) (zs : List Int) (i : Int) : Int := if stableM xss yss zs && inB i 0 ((zs.length : Int) - 1) then nextW xss yss zs i.toNat else -1
theorem stableM_match {xss yss : List (List Int)} {zs : List Int} (h : stableM xss yss zs = true) : matchOk xss yss zs = true := by
  unfold stableM at h
  rw [Bool.and_eq_true] at h
  exact h.1
set_option maxRecDepth 100000 in
set_option maxHeartbeats 2000000 in
theorem nextWoman_any (A : Option Addr) (n c : Nat) (xss : List (List Int)) (B : Option Addr) (m d : Nat) (yss : List (List Int)) (C : Option Addr) (l e : Nat) (zs : List Int) (i : Nat) (w : World) (h : RowsAt w A n xss)
    (g : RowsAt w B m yss) (q : IntsAt w C l zs) (F : MatchF xss yss zs) (hi : i < l) :
    Calls Try.prog 60 #[.agg #[.slice A n c, .slice B m d], .slice C l e, .int .i64 (i : Int)] w fun e w' => e = .returned (.int .i64 (nextW xss yss zs i)) ∧ Below w.heap.size w w' := by
  obtain rfl := h.len
  obtain rfl := g.len
  obtain rfl := q.len
  have FF := Lib.hid F
  have f1 := F.hi
  have f2 := F.lo
  have fz1 := Nat.le_of_eq F.zl
  have fz2 := Nat.le_of_eq F.zl.symm
  have fw1 := Nat.le_of_eq F.wl
  have fw2 := Nat.le_of_eq F.wl.symm
  have hall := pair_below w (.slice A xss.length c) (.slice B yss.length d) 32
  have hz0 := hall.size
  have M0 := MktAt.new h g (c := c) (d := d) 32
  have q0 := q.below hall
  have zi := F.z i (by omega)
  have pb := rank_place (F.mr i (by omega)) zi.1 zi.2
  have rl := rank_len (F.mr i (by omega))
  have RL := Lib.hid rl
  have rl1 : (rx xss i).length ≤ zs.length := by omega
  have rl2 : zs.length ≤ (rx xss i).length := by omega
  clear F rl
  obtain ⟨p, hp⟩ : ∃ p : Nat, place (rx xss i) (ix zs i) = (p : Int) := ⟨(place (rx xss i) (ix zs i)).toNat, by omega⟩
  have hpl : p < (rx xss i).length := by omega
  rw [hp] at pb
  have HP := Lib.hid hp
  clear hp
  obtain ⟨b, o, A', c', eb, _, hck, hcc, hin⟩ := M0.men.at_ (show i < xss.length by omega)
  cases eb
  obtain ⟨bz, oz, ez, _, hcz⟩ := q0.at_ hi
  cases ez
  have kz := hcz i hi
  obtain ⟨br, or_, er, _, hcr⟩ := hin.at_ hpl
  cases er
  have HCR := Lib.hid hcr
  clear hcz hcr
  have i1 : (0 : Int) ≤ (i : Int) := by omega
  have i2 : (i : Int) < (xss.length : Int) := by omega
  have i3 : (i : Int) < (zs.length : Int) := by omega
  have i0 : i < xss.length := by omega
  have hrl : (rx xss i).length ≤ 1099511627776 := by omega
  obtain ⟨d0, d1, _, gw⟩ := M0
  go_enter Try.func60, Try.ntmps60
  go_wp2
  generalize w.alloc (.cells #[.slice (some ⟨b, o, none⟩) xss.length c, .slice B yss.length d] 32) = W0 at *
  have K1 := Lib.hid (fun n => Calls.quiet_of_same (n := n) ((implPlaceOf_any _ _ c' _ (ix zs i) _ (hin.drewN n) hrl).mono fun _ _ ⟨he, hw⟩ => ⟨he, hw.symm⟩))
  rw [HP.out] at K1
  have s1 : IntKind.i64.wrap ((p : Int) + 1) = (p : Int) + 1 := IntWalk.i64_in _ (by omega)
  have s2 : (0 : Int) ≤ (p : Int) + 1 := by omega
  have s3 : ((p : Int) + 1).toNat = p + 1 := by omega
  by_cases hcap : p + 1 = c'
  · obtain rfl := hcap
    have hc3 : (rx xss i).length ≤ p + 1 := by omega
    go_quiet ((with_reducible exact K1.out _))
    clear s1 s2 s3
    go_wp2
    go_loopw [8, 27] (fun _ k_ wr => ∃ j : Nat, j ≤ (rx xss i).length - (p + 1) ∧ k_ = .int .i64 j ∧ idxP (nextP yss zs i) (rx xss i) (p + 1) = idxP (nextP yss zs i) (rx xss i) (p + 1 + j) ∧ Below W0.heap.size W0 wr) (fun _ k_ _ => (rx xss i).length - (p + 1) - (intOf k_).toNat)
    case atStart => exact ⟨0, Nat.zero_le _, rfl, rfl, below_of_drewN rfl⟩
    case round =>
      obtain ⟨j, hj, rfl, hid, hbr⟩ := hrel
      have HI := Lib.hid hid
      clear hid
      by_cases hlt : j < (rx xss i).length - (p + 1)
      · exfalso
        omega
      · have hend := idxP_end (nextP yss zs i) (rx xss i) (p + 1 + j) (by omega)
        have HE : Hid (nextW xss yss zs i = -1) := by
          show _ = _
          unfold nextW
          rw [HP.out, Int.toNat_natCast, HI.out, hend, if_neg (by omega)]
        clear hend
        go_wp2
        go_ret
        exact ⟨ret_i HE.out.symm, hall.trans (hbr.mono hz0)⟩
  have hcap2 : p + 1 < c' := by omega
  go_quiet ((with_reducible exact K1.out _))
  clear s1 s2 s3
  go_wp2
  go_loopw [8, 27] (fun _ k_ wr => ∃ j : Nat, j ≤ (rx xss i).length - (p + 1) ∧ k_ = .int .i64 j ∧ idxP (nextP yss zs i) (rx xss i) (p + 1) = idxP (nextP yss zs i) (rx xss i) (p + 1 + j) ∧ Below W0.heap.size W0 wr) (fun _ k_ _ => (rx xss i).length - (p + 1) - (intOf k_).toNat)
  case atStart => exact ⟨0, Nat.zero_le _, rfl, rfl, below_of_drewN rfl⟩
  case round =>
    obtain ⟨j, hj, rfl, hid, hbr⟩ := hrel
    have HI := Lib.hid hid
    clear hid
    by_cases hlt : j < (rx xss i).length - (p + 1)
    · have ke := HCR.out (p + 1 + j) (by omega)
      rw [← Nat.add_assoc] at ke
      have vb := (rankOk_facts (FF.out.mr i i0)).2.2.2 (p + 1 + j) (by omega)
      obtain ⟨v, ev⟩ : ∃ v : Nat, ix (rx xss i) (p + 1 + j) = (v : Int) := ⟨(ix (rx xss i) (p + 1 + j)).toNat, by omega⟩
      have hv : v < yss.length := by omega
      rw [ev] at ke
      have ke := cell_carry hbr ke
      have d1 := cell_carry hbr d1
      obtain ⟨b', o', B', d', eb', _, hck', hcc', hin'⟩ := (gw.below hbr).at_ hv
      cases eb'
      have q2 := q0.below hbr
      have k1 : (0 : Int) ≤ (v : Int) := by omega
      have k2 : (v : Int) < (yss.length : Int) := by omega
      have rl' : (rx yss v).length ≤ 1099511627776 := by have := rank_len (FF.out.wr v (by omega)); omega
      have hstep := idxP_step (nextP yss zs i) (rx xss i) (p + 1 + j) (by omega)
      have HPV : Hid (nextP yss zs i (ix (rx xss i) (p + 1 + j)) = pref (rx yss v) i (place zs v)) := by show _ = _; rw [ev]; rfl
      have K2 := Lib.hid (fun n => Calls.quiet_of_same (n := n) ((index_any _ _ e _ (v : Int) _ (q2.drewN n) (by omega)).mono fun _ _ ⟨he, hw⟩ => ⟨he, hw.symm⟩))
      have K3 := Lib.hid (fun n => Calls.quiet_of_same (n := n) ((implPrefers _ _ d' _ (i : Int) (place zs v) _ (hin'.drewN n) rl').mono fun _ _ ⟨he, hw⟩ => ⟨he, hw.symm⟩))
      cases hp2 : pref (rx yss v) i (place zs v)
      · rw [hp2] at K3 HPV
        rw [HPV.out, if_neg (by simp)] at hstep
        have HS := Lib.hid (HI.out.trans hstep)
        clear hstep hp2 ev vb
        go_wp2
        go_quiet ((first | (with_reducible exact K2.out _) | (with_reducible exact K3.out _)))
        go_wp2
        go_roundw
        case rel => exact ⟨j + 1, by omega, by go_num, HS.out, hbr.trans (below_of_drewN rfl)⟩
        case measure => simp [intOf]; omega
      · rw [hp2] at K3 HPV
        rw [HPV.out, if_pos rfl] at hstep
        have HS := Lib.hid (HI.out.trans hstep)
        have EV := Lib.hid ev
        clear hstep hp2 ev vb
        have HE : Hid (nextW xss yss zs i = (v : Int)) := by
          show _ = _
          unfold nextW
          rw [HP.out, Int.toNat_natCast, HS.out, if_pos (by omega), Int.toNat_natCast, EV.out]
        go_wp2
        go_quiet ((first | (with_reducible exact K2.out _) | (with_reducible exact K3.out _)))
        go_wp2
        go_ret
        exact ⟨ret_i HE.out.symm, hall.trans ((hbr.trans (below_of_drewN rfl)).mono hz0)⟩
    · have hend := idxP_end (nextP yss zs i) (rx xss i) (p + 1 + j) (by omega)
      have HE : Hid (nextW xss yss zs i = -1) := by
        show _ = _
        unfold nextW
        rw [HP.out, Int.toNat_natCast, HI.out, hend, if_neg (by omega)]
      clear hend
      go_wp2
      go_ret
      exact ⟨ret_i HE.out.symm, hall.trans (hbr.mono hz0)⟩
set_option maxRecDepth 100000 in
set_option maxHeartbeats 2000000 in
theorem l19Next_any (A : Option Addr) (n c : Nat) (xss : List (List Int)) (B : Option Addr) (m d : Nat) (yss : List (List Int)) (C : Option Addr) (l e : Nat) (zs : List Int) (i : Nat) (w : World) (h : RowsAt w A n xss)
    (g : RowsAt w B m yss) (q : IntsAt w C l zs) (F : MatchF xss yss zs) (hi : i < l) :
    Calls Try.prog 59 #[.agg #[.slice A n c, .slice B m d], .slice C l e, .int .i64 (i : Int)] w fun e w' => e = .returned (.int .i64 (nextW xss yss zs i)) ∧ Below w.heap.size w w' := by
  obtain rfl := h.len
  obtain rfl := g.len
  obtain rfl := q.len
  have FF := Lib.hid F
  have f1 := F.hi
  have f2 := F.lo
  have fz1 := Nat.le_of_eq F.zl
  have fz2 := Nat.le_of_eq F.zl.symm
  have fw1 := Nat.le_of_eq F.wl
  have fw2 := Nat.le_of_eq F.wl.symm
  have hall := pair_below w (.slice A xss.length c) (.slice B yss.length d) 32
  have hz0 := hall.size
  have M0 := MktAt.new h g (c := c) (d := d) 32
  have q0 := q.below hall
  have zi := F.z i (by omega)
  have pb := rank_place (F.mr i (by omega)) zi.1 zi.2
  have rl := rank_len (F.mr i (by omega))
  have RL := Lib.hid rl
  have rl1 : (rx xss i).length ≤ zs.length := by omega
  have rl2 : zs.length ≤ (rx xss i).length := by omega
  clear F rl
  obtain ⟨p, hp⟩ : ∃ p : Nat, place (rx xss i) (ix zs i) = (p : Int) := ⟨(place (rx xss i) (ix zs i)).toNat, by omega⟩
  have hpl : p < (rx xss i).length := by omega
  rw [hp] at pb
  have HP := Lib.hid hp
  clear hp
  obtain ⟨b, o, A', c', eb, _, hck, hcc, hin⟩ := M0.men.at_ (show i < xss.length by omega)
  cases eb
  obtain ⟨bz, oz, ez, _, hcz⟩ := q0.at_ hi
  cases ez
  have kz := hcz i hi
  obtain ⟨br, or_, er, _, hcr⟩ := hin.at_ hpl
  cases er
  have HCR := Lib.hid hcr
  clear hcz hcr
  have i1 : (0 : Int) ≤ (i : Int) := by omega
  have i2 : (i : Int) < (xss.length : Int) := by omega
  have i3 : (i : Int) < (zs.length : Int) := by omega
  have i0 : i < xss.length := by omega
  have hrl : (rx xss i).length ≤ 1099511627776 := by omega
  obtain ⟨d0, d1, _, gw⟩ := M0
  go_enter Try.func59, Try.ntmps59
  go_wp2_with fail
  generalize w.alloc (.cells #[.slice (some ⟨b, o, none⟩) xss.length c, .slice B yss.length d] 32) = W0 at *
  have K1 := Lib.hid (fun n => Calls.quiet_of_same (n := n) ((specPlaceOf_any _ _ c' _ (ix zs i) _ (hin.drewN n) hrl).mono fun _ _ ⟨he, hw⟩ => ⟨he, hw.symm⟩))
  rw [HP.out] at K1
  have s1 : IntKind.i64.wrap ((p : Int) + 1) = (p : Int) + 1 := IntWalk.i64_in _ (by omega)
  have s2 : (0 : Int) ≤ (p : Int) + 1 := by omega
  have s3 : ((p : Int) + 1).toNat = p + 1 := by omega
  by_cases hcap : p + 1 = c'
  · obtain rfl := hcap
    have hc3 : (rx xss i).length ≤ p + 1 := by omega
    (with_reducible refine (specPlaceOf_any _ _ _ _ _ _ hin hrl).mono ?_)
    rintro e w' ⟨rfl, rfl⟩
    rw [HP.out]
    go_wp2
    clear s1 s2 s3
    go_loopw [9, 25] (fun _ k_ wr => ∃ j : Nat, j ≤ (rx xss i).length - (p + 1) ∧ k_ = .int .i64 j ∧ idxP (nextP yss zs i) (rx xss i) (p + 1) = idxP (nextP yss zs i) (rx xss i) (p + 1 + j) ∧ Below W0.heap.size W0 wr) (fun _ k_ _ => (rx xss i).length - (p + 1) - (intOf k_).toNat)
    case atStart => exact ⟨0, Nat.zero_le _, rfl, rfl, Below.refl _ _⟩
    case round =>
      obtain ⟨j, hj, rfl, hid, hbr⟩ := hrel
      have HI := Lib.hid hid
      clear hid
      by_cases hlt : j < (rx xss i).length - (p + 1)
      · exfalso
        omega
      · have hend := idxP_end (nextP yss zs i) (rx xss i) (p + 1 + j) (by omega)
        have HE : Hid (nextW xss yss zs i = -1) := by
          show _ = _
          unfold nextW
          rw [HP.out, Int.toNat_natCast, HI.out, hend, if_neg (by omega)]
        clear hend
        go_wp2
        go_ret
        exact ⟨ret_i HE.out.symm, hall.trans (hbr.mono hz0)⟩
  have hcap2 : p + 1 < c' := by omega
  (with_reducible refine (specPlaceOf_any _ _ _ _ _ _ hin hrl).mono ?_)
  rintro e w' ⟨rfl, rfl⟩
  rw [HP.out]
  go_wp2
  clear s1 s2 s3
  go_loopw [9, 25] (fun _ k_ wr => ∃ j : Nat, j ≤ (rx xss i).length - (p + 1) ∧ k_ = .int .i64 j ∧ idxP (nextP yss zs i) (rx xss i) (p + 1) = idxP (nextP yss zs i) (rx xss i) (p + 1 + j) ∧ Below W0.heap.size W0 wr) (fun _ k_ _ => (rx xss i).length - (p + 1) - (intOf k_).toNat)
  case atStart => exact ⟨0, Nat.zero_le _, rfl, rfl, Below.refl _ _⟩
  case round =>
    obtain ⟨j, hj, rfl, hid, hbr⟩ := hrel
    have HI := Lib.hid hid
    clear hid
    by_cases hlt : j < (rx xss i).length - (p + 1)
    · have ke := HCR.out (p + 1 + j) (by omega)
      rw [← Nat.add_assoc] at ke
      have vb := (rankOk_facts (FF.out.mr i i0)).2.2.2 (p + 1 + j) (by omega)
      obtain ⟨v, ev⟩ : ∃ v : Nat, ix (rx xss i) (p + 1 + j) = (v : Int) := ⟨(ix (rx xss i) (p + 1 + j)).toNat, by omega⟩
      have hv : v < yss.length := by omega
      rw [ev] at ke
      have ke := cell_carry hbr ke
      have d1 := cell_carry hbr d1
      obtain ⟨b', o', B', d', eb', _, hck', hcc', hin'⟩ := (gw.below hbr).at_ hv
      cases eb'
      have q2 := q0.below hbr
      have k1 : (0 : Int) ≤ (v : Int) := by omega
      have k2 : (v : Int) < (yss.length : Int) := by omega
      have rl' : (rx yss v).length ≤ 1099511627776 := by have := rank_len (FF.out.wr v (by omega)); omega
      have hstep := idxP_step (nextP yss zs i) (rx xss i) (p + 1 + j) (by omega)
      have HPV : Hid (nextP yss zs i (ix (rx xss i) (p + 1 + j)) = pref (rx yss v) i (place zs v)) := by show _ = _; rw [ev]; rfl
      have K2 := Lib.hid (fun n => Calls.quiet_of_same (n := n) ((specPlaceOf_any _ _ e _ (v : Int) _ (q2.drewN n) (by omega)).mono fun _ _ ⟨he, hw⟩ => ⟨he, hw.symm⟩))
      have K3 := Lib.hid (fun n => Calls.quiet_of_same (n := n) ((specPrefers _ _ d' _ (i : Int) (place zs v) _ (hin'.drewN n) rl').mono fun _ _ ⟨he, hw⟩ => ⟨he, hw.symm⟩))
      cases hp2 : pref (rx yss v) i (place zs v)
      · rw [hp2] at K3 HPV
        rw [HPV.out, if_neg (by simp)] at hstep
        have HS := Lib.hid (HI.out.trans hstep)
        clear hstep hp2 ev vb
        go_wp2
        go_quiet ((first | (with_reducible exact K2.out _) | (with_reducible exact K3.out _)))
        go_wp2
        go_roundw
        case rel => exact ⟨j + 1, by omega, by go_num, HS.out, hbr.trans (below_of_drewN rfl)⟩
        case measure => simp [intOf]; omega
      · rw [hp2] at K3 HPV
        rw [HPV.out, if_pos rfl] at hstep
        have HS := Lib.hid (HI.out.trans hstep)
        have EV := Lib.hid ev
        clear hstep hp2 ev vb
        have HE : Hid (nextW xss yss zs i = (v : Int)) := by
          show _ = _
          unfold nextW
          rw [HP.out, Int.toNat_natCast, HS.out, if_pos (by omega), Int.toNat_natCast, EV.out]
        go_wp2
        go_quiet ((first | (with_reducible exact K2.out _) | (with_reducible exact K3.out _)))
        go_wp2
        go_ret
        exact ⟨ret_i HE.out.symm, hall.trans ((hbr.trans (below_of_drewN rfl)).mono hz0)⟩
    · have hend := idxP_end (nextP yss zs i) (rx xss i) (p + 1 + j) (by omega)
      have HE : Hid (nextW xss yss zs i = -1) := by
        show _ = _
        unfold nextW
        rw [HP.out, Int.toNat_natCast, HI.out, hend, if_neg (by omega)]
      clear hend
      go_wp2
      go_ret
      exact ⟨ret_i HE.out.symm, hall.trans (hbr.mono hz0)⟩
set_option maxHeartbeats 800000 in
theorem implNextWoman (A : Option Addr) (n c : Nat) (xss : List (List Int)) (B : Option Addr) (m d : Nat) (yss : List (List Int)) (C : Option Addr) (l e : Nat) (zs : List Int) (i : Int) (w : World) (h : RowsAt w A n xss) (hn : n ≤ 1048576) (hx : ∀ xs ∈ xss, xs.length ≤ 1048576)
    (g : RowsAt w B m yss) (hm : m ≤ 1048576) (hy : ∀ xs ∈ yss, xs.length ≤ 1048576) (q : IntsAt w C l zs) (hl : l ≤ 1048576) (hc : l ≤ e) :
    Calls Try.prog 40 #[.agg #[.slice A n c, .slice B m d], .slice C l e, .int .i64 i] w fun e w' => e = .returned (.int .i64 (nextWoman xss yss zs i)) ∧ Below w.heap.size w w' := by
  obtain rfl := h.len
  obtain rfl := g.len
  obtain rfl := q.len
  have HX := Lib.hid hx
  have HY := Lib.hid hy
  clear hx hy
  have hall := pair_below w (.slice A xss.length c) (.slice B yss.length d) 32
  have hz0 := hall.size
  have h0 := h.below hall
  have g0 := g.below hall
  have q0 := q.below hall
  have M0 := MktAt.new h g (c := c) (d := d) 32
  cases m1 : stableM xss yss zs
  · have HE : Hid (nextWoman xss yss zs i = -1) := by show _ = _; unfold nextWoman; rw [m1]; rfl
    go_enter Try.func40, Try.ntmps40
    go_wp2_with fail
    (with_reducible refine (implIsStable _ _ _ _ _ _ _ _ _ _ _ _ _ h0 hn HX.out g0 hm HY.out q0 hl hc).mono ?_)
    rintro e w1 ⟨rfl, hb⟩
    rw [m1]
    have hb2 := hall.trans (hb.mono hz0)
    clear hb hall M0 hz0
    go_wp2
    go_ret
    exact ⟨ret_i HE.out.symm, hb2⟩
  cases m2 : inB i 0 ((zs.length : Int) - 1)
  · have HE : Hid (nextWoman xss yss zs i = -1) := by show _ = _; unfold nextWoman; rw [m1, m2]; rfl
    go_enter Try.func40, Try.ntmps40
    go_wp2_with fail
    (with_reducible refine (implIsStable _ _ _ _ _ _ _ _ _ _ _ _ _ h0 hn HX.out g0 hm HY.out q0 hl hc).mono ?_)
    rintro e w1 ⟨rfl, hb⟩
    rw [m1]
    have hb2 := hall.trans (hb.mono hz0)
    clear hb hall M0 hz0
    go_wp2_with (go_at_call 47; refine (within_any _ _ _ _).mono ?_; rintro e w' ⟨rfl, rfl⟩)
    go_ret
    exact ⟨ret_i HE.out.symm, hb2⟩
  have FF := Lib.hid (match_facts (stableM_match m1))
  have mb := inB_iff.1 m2
  obtain ⟨j, rfl⟩ : ∃ j : Nat, i = (j : Int) := ⟨i.toNat, by omega⟩
  have HE : Hid (nextWoman xss yss zs j = nextW xss yss zs j) := by show _ = _; unfold nextWoman; rw [m1, m2]; rfl
  have hj : j < zs.length := by omega
  go_enter Try.func40, Try.ntmps40
  go_wp2_with fail
  (with_reducible refine (implIsStable _ _ _ _ _ _ _ _ _ _ _ _ _ h0 hn HX.out g0 hm HY.out q0 hl hc).mono ?_)
  rintro e w1 ⟨rfl, hb⟩
  rw [m1]
  have hb2 := hall.trans (hb.mono hz0)
  have s2 := hb2.size
  have q1 := q0.below hb
  obtain ⟨c0, c1, h1, g1⟩ := M0.below hb
  clear hb hall hz0 M0
  go_wp2_with (first | (go_at_call 47; refine (within_any _ _ _ _).mono ?_; rintro e w' ⟨rfl, rfl⟩) | (go_at_call 60; (with_reducible refine (nextWoman_any _ _ _ _ _ _ _ _ _ _ _ _ j _ h1 g1 q1 FF.out hj).mono ?_); rintro e w2 ⟨rfl, hb⟩; have hb3 := hb2.trans (hb.mono s2); clear hb hb2 c0 c1))
  go_ret
  exact ⟨ret_i HE.out.symm, hb3⟩
set_option maxHeartbeats 800000 in
theorem specNextWoman (A : Option Addr) (n c : Nat) (xss : List (List Int)) (B : Option Addr) (m d : Nat) (yss : List (List Int)) (C : Option Addr) (l e : Nat) (zs : List Int) (i : Int) (w : World) (h : RowsAt w A n xss) (hn : n ≤ 1048576) (hx : ∀ xs ∈ xss, xs.length ≤ 1048576)
    (g : RowsAt w B m yss) (hm : m ≤ 1048576) (hy : ∀ xs ∈ yss, xs.length ≤ 1048576) (q : IntsAt w C l zs) (hl : l ≤ 1048576) (hc : l ≤ e) :
    Calls Try.prog 39 #[.agg #[.slice A n c, .slice B m d], .slice C l e, .int .i64 i] w fun e w' => e = .returned (.int .i64 (nextWoman xss yss zs i)) ∧ Below w.heap.size w w' := by
  obtain rfl := h.len
  obtain rfl := g.len
  obtain rfl := q.len
  have HX := Lib.hid hx
  have HY := Lib.hid hy
  clear hx hy
  have hall := pair_below w (.slice A xss.length c) (.slice B yss.length d) 32
  have hz0 := hall.size
  have h0 := h.below hall
  have g0 := g.below hall
  have q0 := q.below hall
  have M0 := MktAt.new h g (c := c) (d := d) 32
  cases m1 : stableM xss yss zs
  · have HE : Hid (nextWoman xss yss zs i = -1) := by show _ = _; unfold nextWoman; rw [m1]; rfl
    go_enter Try.func39, Try.ntmps39
    go_wp2_with fail
    (with_reducible refine (specIsStable _ _ _ _ _ _ _ _ _ _ _ _ _ h0 hn HX.out g0 hm HY.out q0 hl hc).mono ?_)
    rintro e w1 ⟨rfl, hb⟩
    rw [m1]
    have hb2 := hall.trans (hb.mono hz0)
    clear hb hall M0 hz0
    go_wp2
    go_ret
    exact ⟨ret_i HE.out.symm, hb2⟩
  cases m2 : inB i 0 ((zs.length : Int) - 1)
  · have HE : Hid (nextWoman xss yss zs i = -1) := by show _ = _; unfold nextWoman; rw [m1, m2]; rfl
    go_enter Try.func39, Try.ntmps39
    go_wp2_with fail
    (with_reducible refine (specIsStable _ _ _ _ _ _ _ _ _ _ _ _ _ h0 hn HX.out g0 hm HY.out q0 hl hc).mono ?_)
    rintro e w1 ⟨rfl, hb⟩
    rw [m1]
    have hb2 := hall.trans (hb.mono hz0)
    clear hb hall M0 hz0
    go_wp2_with (go_at_call 44; refine (l01In_any _ _ _ _).mono ?_; rintro e w' ⟨rfl, rfl⟩)
    go_ret
    exact ⟨ret_i HE.out.symm, hb2⟩
  have FF := Lib.hid (match_facts (stableM_match m1))
  have mb := inB_iff.1 m2
  obtain ⟨j, rfl⟩ : ∃ j : Nat, i = (j : Int) := ⟨i.toNat, by omega⟩
  have HE : Hid (nextWoman xss yss zs j = nextW xss yss zs j) := by show _ = _; unfold nextWoman; rw [m1, m2]; rfl
  have hj : j < zs.length := by omega
  go_enter Try.func39, Try.ntmps39
  go_wp2_with fail
  (with_reducible refine (specIsStable _ _ _ _ _ _ _ _ _ _ _ _ _ h0 hn HX.out g0 hm HY.out q0 hl hc).mono ?_)
  rintro e w1 ⟨rfl, hb⟩
  rw [m1]
  have hb2 := hall.trans (hb.mono hz0)
  have s2 := hb2.size
  have q1 := q0.below hb
  obtain ⟨c0, c1, h1, g1⟩ := M0.below hb
  clear hb hall hz0 M0
  go_wp2_with (first | (go_at_call 44; refine (l01In_any _ _ _ _).mono ?_; rintro e w' ⟨rfl, rfl⟩) | (go_at_call 59; (with_reducible refine (l19Next_any _ _ _ _ _ _ _ _ _ _ _ _ j _ h1 g1 q1 FF.out hj).mono ?_); rintro e w2 ⟨rfl, hb⟩; have hb3 := hb2.trans (hb.mono s2); clear hb hb2 c0 c1))
  go_ret
  exact ⟨ret_i HE.out.symm, hb3⟩
end Go.Proofs.Ytgehbpeeljifnaa
