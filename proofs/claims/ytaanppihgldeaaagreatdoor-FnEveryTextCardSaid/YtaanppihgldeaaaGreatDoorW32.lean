/- Presence and unity: SplitFailure, AbstainGain, the program's side. All rankings the other way round: ReverseRanking, slices.Equal; the program's side. -/
import Derived.Test.YtaanppihgldeaaaGreatDoorW31
import Derived.Test.YtaanppihgldeaaaGreatDoorW18
namespace Go.Proofs.YtaanppihgldeaaaGreatDoor
set_option linter.unusedSimpArgs false
set_option linter.unusedVariables false
set_option linter.unusedVariables false
open Go.RowKit

theorem vx_take {vs : List Vt} {k j : Nat} (hj : j < k) (hk : k ≤ vs.length) : vx (vs.take k) j = vx vs j := by
  rw [vx_lt (by simp; omega), vx_lt (by omega), List.getElem_take]
theorem vx_drop {vs : List Vt} {k j : Nat} (hj : j < vs.length - k) : vx (vs.drop k) j = vx vs (k + j) := by
  rw [vx_lt (by simp; omega), vx_lt (by omega), List.getElem_drop]
theorem VotesAt.take {w : World} {A : Option Addr} {n k : Nat} {vs : List Vt} (h : VotesAt w A n vs) (hk : k ≤ n) : VotesAt w A k (vs.take k) := by
  obtain rfl := h.len
  refine ⟨by simp; omega, fun h0 => ?_⟩
  obtain ⟨b, o, e, hc⟩ := h.2 (by omega)
  refine ⟨b, o, e, fun j hj => ?_⟩
  rw [vx_take hj hk]
  exact hc j (by omega)
theorem VotesAt.drop {w : World} {b o n k : Nat} {vs : List Vt} (h : VotesAt w (some ⟨b, o, none⟩) n vs) (hk : k ≤ n) : VotesAt w (some ⟨b, o + k * 2, none⟩) (n - k) (vs.drop k) := by
  obtain rfl := h.len
  refine ⟨by simp, fun h0 => ?_⟩
  obtain ⟨b', o', e, hc⟩ := h.2 (by omega)
  cases e
  refine ⟨b, o + k * 2, rfl, fun j hj => ?_⟩
  rw [vx_drop hj]
  obtain ⟨A', n', c', h1, h2, h3, h4⟩ := hc (k + j) (by omega)
  exact ⟨A', n', c', by rw [show o + k * 2 + j * 2 = o + (k + j) * 2 by omega]; exact h1, by rw [show o + k * 2 + j * 2 + 1 = o + (k + j) * 2 + 1 by omega]; exact h2, h3, h4⟩
set_option maxRecDepth 100000 in
set_option maxHeartbeats 1000000 in
theorem implSplitNo (rule m : Int) (A : Option Addr) (n c : Nat) (vs : List Vt) (k : Int) (w : World) (h : VotesAt w A n vs) (hnc : n ≤ c) (hcm : c ≤ 9223372036854775807) (hp : profOk m vs = true) (r1 : 1 ≤ rule) (r13 : rule ≤ 13)
    (HS : ∀ k : Nat, winnerR rule m (vs.take k) = winnerR rule m (vs.drop k) → winnerR rule m (vs.take k) = winnerR rule m vs) :
    Calls Tryz.prog 11 #[.int .i64 rule, .agg #[.int .i64 m, .slice A n c], .int .i64 k] w fun e w' => e = .returned (.bool false) ∧ Below w.heap.size w w' := by
  obtain rfl := h.len
  have hB := alloc_below w (.cells #[.int .i64 m, .slice A vs.length c] 24)
  obtain ⟨x0, x1⟩ := PBox.new w m A vs.length c 24 rfl
  replace h := h.below hB
  generalize hw0 : w.alloc (.cells #[.int .i64 m, .slice A vs.length c] 24) = w0 at *
  have F := pf_of hp
  obtain ⟨hn, hx⟩ := small_of F
  have K := Lib.hid (implWinnerBy rule m A vs.length c vs w0 h hn hx)
  have wb := winner_bd (rule := rule) hp r1 r13
  have wb0 : ¬ winnerR rule m vs < 0 := by omega
  have wb1 : decide (winnerR rule m vs < 0) = false := decide_eq_false wb0
  have ewn : IntKind.i64.wrap ((vs.length : Int) - 1) = (vs.length : Int) - 1 := IntWalk.i64_in _ (by omega)
  cases hin : inB k 1 ((vs.length : Int) - 1)
  · generalize winnerR rule m vs = a at *
    clear HS hx F
    go_enter Tryz.func11, Tryz.ntmps11
    go_wp2_with fail
    (with_reducible refine (K.out).mono ?_)
    rintro e w1 ⟨rfl, b1⟩
    replace x0 := cell_carry b1 x0
    replace x1 := cell_carry b1 x1
    replace hB := hB.trans (b1.mono hB.size)
    clear b1
    go_wp2_with fail
    (with_reducible refine (within_any _ _ _ _).mono ?_)
    rintro e w2 ⟨rfl, rfl⟩
    rw [hin]
    go_wp2
    go_ret
    exact ⟨rfl, hB⟩
  obtain ⟨Q, rfl, q1, q2⟩ : ∃ Q : Nat, k = (Q : Int) ∧ 1 ≤ Q ∧ Q < vs.length := by
    rw [inB_iff] at hin
    exact ⟨k.toNat, by omega, by omega, by omega⟩
  obtain ⟨b, o, rfl, _⟩ := h.2 (by omega)
  have HSQ := HS Q
  have hx1 : ∀ v ∈ vs.take Q, v.r.length ≤ 1048576 := fun v hv => hx v (List.mem_of_mem_take hv)
  have hx2 : ∀ v ∈ vs.drop Q, v.r.length ≤ 1048576 := fun v hv => hx v (List.mem_of_mem_drop hv)
  have KT := Lib.hid (fun W (hW : VotesAt W (some ⟨b, o, none⟩) vs.length vs) => implWinnerBy rule m (some ⟨b, o, none⟩) Q c (vs.take Q) W (hW.take (by omega)) (by omega) hx1)
  have KD := Lib.hid (fun W (hW : VotesAt W (some ⟨b, o, none⟩) vs.length vs) => implWinnerBy rule m (some ⟨b, o + Q * 2, none⟩) (vs.length - Q) (c - Q) (vs.drop Q) W (hW.drop (by omega)) (by omega) hx2)
  generalize winnerR rule m vs = a at *
  generalize winnerR rule m (vs.take Q) = u at *
  generalize winnerR rule m (vs.drop Q) = y at *
  clear HS hx hx1 hx2 F
  have ncq : ¬ (c = Q) := by omega
  have ewq : IntKind.i64.wrap (Q : Int) = (Q : Int) := IntWalk.i64_in _ (by omega)
  have e1 : (Q : Int) ≤ (c : Int) := by omega
  have e2 : (Q : Int) ≤ (vs.length : Int) := by omega
  have e3 : Q ≤ c := by omega
  have e4 : Q ≤ vs.length := by omega
  go_enter Tryz.func11, Tryz.ntmps11
  go_wp2_with fail
  (with_reducible refine (K.out).mono ?_)
  rintro e w1 ⟨rfl, b1⟩
  replace x0 := cell_carry b1 x0
  replace x1 := cell_carry b1 x1
  replace h := h.below b1
  replace hB := hB.trans (b1.mono hB.size)
  clear b1
  go_wp2_with fail
  (with_reducible refine (within_any _ _ _ _).mono ?_)
  rintro e w2 ⟨rfl, rfl⟩
  rw [hin]
  clear hin K hw0
  have K1 : Hid (∀ L : Later w1, Calls Tryz.prog 7 #[.int .i64 rule, .agg #[.int .i64 m, .slice (some ⟨b, o, none⟩) Q c]] L.W fun e W' => e = .returned (.int .i64 u) ∧ ∃ L' : Later w1, W' = L'.W) :=
    fun L => L.call (KT.out L.W (h.below L.h))
  have q0 : ∀ L : Later w1, L.W.cell? ⟨w.heap.size, 0, none⟩ = some (.int .i64 m) := fun L => L.cell x0
  have q1' : ∀ L : Later w1, L.W.cell? ⟨w.heap.size, 1, none⟩ = some (.slice (some ⟨b, o, none⟩) vs.length c) := fun L => L.cell x1
  go_upto_region 4 with fail
  refine wp_region_later (by kernel_rfl) (by kernel_rfl) ?_
  repeat (go_big_quiet_step (first | (with_reducible exact K1.out _)))
  (refine wpQuiet_nil ?_; rintro wl ⟨L_, hwl_⟩; have hbl := L_.h; rw [← hwl_] at hbl; clear hwl_ L_)
  replace x0 := cell_carry hbl x0
  replace x1 := cell_carry hbl x1
  replace h := h.below hbl
  replace hB := hB.trans (hbl.mono hB.size)
  clear hbl K1 q0 q1' KT
  have K2 : Hid (∀ L : Later wl, Calls Tryz.prog 7 #[.int .i64 rule, .agg #[.int .i64 m, .slice (some ⟨b, o + Q * 2, none⟩) (vs.length - Q) (c - Q)]] L.W fun e W' => e = .returned (.int .i64 y) ∧ ∃ L' : Later wl, W' = L'.W) :=
    fun L => L.call (KD.out L.W (h.below L.h))
  have q0 : ∀ L : Later wl, L.W.cell? ⟨w.heap.size, 0, none⟩ = some (.int .i64 m) := fun L => L.cell x0
  have q1' : ∀ L : Later wl, L.W.cell? ⟨w.heap.size, 1, none⟩ = some (.slice (some ⟨b, o, none⟩) vs.length c) := fun L => L.cell x1
  clear KD h
  by_cases huy : u = y
  · obtain rfl := huy
    obtain rfl := HSQ rfl
    go_upto_region 5 with fail
    refine wp_region_later (by kernel_rfl) (by kernel_rfl) ?_
    repeat (go_big_quiet_step (first | (with_reducible exact K2.out _)))
    (refine wpQuiet_nil ?_; rintro wl ⟨L_, hwl_⟩; have hbl := L_.h; rw [← hwl_] at hbl; clear hwl_ L_)
    go_wp2
    go_ret
    exact ⟨rfl, hB.trans (hbl.mono hB.size)⟩
  · have huy1 : (u == y) = false := by rw [beq_eq_false_iff_ne]; exact huy
    go_upto_region 5 with fail
    refine wp_region_later (by kernel_rfl) (by kernel_rfl) ?_
    repeat (go_big_quiet_step (first | (with_reducible exact K2.out _)))
    (refine wpQuiet_nil ?_; rintro wl ⟨L_, hwl_⟩; have hbl := L_.h; rw [← hwl_] at hbl; clear hwl_ L_)
    go_wp2
    go_ret
    exact ⟨rfl, hB.trans (hbl.mono hB.size)⟩
set_option maxRecDepth 100000 in
set_option maxHeartbeats 2000000 in
theorem implAbstainNo (rule m : Int) (A : Option Addr) (n c : Nat) (vs : List Vt) (w : World) (h : VotesAt w A n vs) (hnc : n ≤ c) (hcm : c ≤ 9223372036854775807) (hp : profOk m vs = true) (r1 : 1 ≤ rule) (r13 : rule ≤ 13)
    (HS : ∀ k : Nat, k < vs.length → pref (vx vs k).r (winnerR rule m (vs.take k ++ vs.drop (k + 1))) (winnerR rule m vs) = false) :
    Calls Tryz.prog 10 #[.int .i64 rule, .agg #[.int .i64 m, .slice A n c]] w fun e w' => e = .returned (.int .i64 (-1)) ∧ Below w.heap.size w w' := by
  obtain rfl := h.len
  have hB := alloc_below w (.cells #[.int .i64 m, .slice A vs.length c] 24)
  obtain ⟨x0, x1⟩ := PBox.new w m A vs.length c 24 rfl
  replace h := h.below hB
  generalize hw0 : w.alloc (.cells #[.int .i64 m, .slice A vs.length c] 24) = w0 at *
  have F := pf_of hp
  obtain ⟨hn, hx⟩ := small_of F
  have K := Lib.hid (implWinnerBy rule m A vs.length c vs w0 h hn hx)
  have wb := winner_bd (rule := rule) hp r1 r13
  have RS := Lib.hid (fun k hk => raise_some F (k := k) hk)
  have HSS := Lib.hid HS
  have KN := Lib.hid (fun A' n' c' (us : List Vt) (hs : ∀ v ∈ us, v ∈ vs) (hl : us.length ≤ vs.length) W hW => implWinnerBy rule m A' n' c' us W hW (by rw [← VotesAt.len hW]; omega) (fun v hv => hx v (hs v hv)))
  have n24 := F.n
  clear HS F hx hp
  generalize hWa : winnerR rule m vs = a at *
  clear hWa
  go_enter Tryz.func10, Tryz.ntmps10
  go_wp2_with fail
  (with_reducible refine K.out.mono ?_)
  rintro e w1 ⟨rfl, b1⟩
  replace x0 := cell_carry b1 x0
  replace x1 := cell_carry b1 x1
  replace h := h.below b1
  replace hB := hB.trans (b1.mono hB.size)
  clear b1 K hw0
  have wb0 : ¬ a < 0 := by omega
  have wb1 : decide (a < 0) = false := decide_eq_false wb0
  go_wp2
  go_loopw [6, 7, 8, 17] (fun _ _ _ i wr => ∃ q : Nat, q ≤ vs.length ∧ i = .int .i64 q ∧ Below w1.heap.size w1 wr) (fun _ _ _ i _ => vs.length - (intOf i).toNat)
  case atStart => exact ⟨0, Nat.zero_le _, rfl, Below.refl _ _⟩
  case round =>
    obtain ⟨q, hq, rfl, hb⟩ := hrel
    by_cases hlq : q < vs.length
    · obtain ⟨b, o, A', c', rfl, _, hc1, hc2, hcc, hin⟩ := (h.below hb).at_ hlq
      obtain ⟨hr, hl5⟩ := RS.out q hlq
      have HSq := Lib.hid (HSS.out q hlq)
      generalize vx vs q = v at *
      have b2 := alloc_below wr (.cells #[.slice A' v.r.length c', .int .i64 v.c] 44)
      obtain ⟨y0, y1⟩ := new_pair wr (.slice A' v.r.length c') (.int .i64 v.c) 44 rfl
      have hin2 := hin.below b2
      have hb2 := hb.trans (b2.mono hb.size)
      have x0' := cell_carry hb2 x0
      have x1' := cell_carry hb2 x1
      have h2 := h.below hb2
      clear b2 hin hb
      generalize hw2 : wr.alloc (.cells #[.slice A' v.r.length c', .int .i64 v.c] 44) = w2 at *
      have i1 : (q : Int) < (vs.length : Int) := by omega
      obtain ⟨Z1, hz1, k1, k2⟩ := (h2.take (k := q) (by omega)).cells
      have e1 : (q : Int) ≤ (c : Int) := by omega
      have e2 : (q : Int) + 1 ≤ (vs.length : Int) := by omega
      have e3 : q ≤ c := by omega
      have e4 : q + 1 ≤ vs.length := by omega
      have ewq : IntKind.i64.wrap (q : Int) = (q : Int) := IntWalk.i64_in _ (by omega)
      have ewq1 : IntKind.i64.wrap ((q : Int) + 1) = (q : Int) + 1 := IntWalk.i64_in _ (by omega)
      have etn : ((q : Int) + 1).toNat = q + 1 := by omega
      have p1 : (0 : Int) ≤ (q : Int) + 1 := by omega
      have lz1 : Z1.length = q := by have := congrArg List.length hz1; simp at this; omega
      have KNq := Lib.hid (fun A' n' c' W hW => KN.out A' n' c' (vs.take q ++ vs.drop (q + 1)) (fun v hv => (List.mem_append.1 hv).elim List.mem_of_mem_take List.mem_of_mem_drop) (by simp; omega) W hW)
      by_cases hcq : c = q + 1
      · skip
        subst hcq
        have hvl := Lib.hid (show vs.length = q + 1 by omega)
        have e7 : (q : Int) ≤ (q : Int) + 1 := by omega
        have e8 : q ≤ q + 1 := by omega
        obtain ⟨Z2, hz2, k3, k4, lz2⟩ : ∃ Z2 : List VE, Z2.map Prod.snd = vs.drop (q + 1) ∧ RkAt w2 Z2 ∧ CellsAt w2 (some ⟨b, o, none⟩) Z2 ∧ Z2.length = 0 := ⟨[], by rw [List.drop_of_length_le (by rw [hvl.out]; exact Nat.le_refl _)]; rfl, fun p hp => by simp at hp, fun hp => absurd hp (by simp), rfl⟩
        have KC := Lib.hid (fun b0 cc W d1 d2 (hW : Below w2.heap.size w2 W) => concatV_any b0 0 cc (some ⟨b, o, none⟩) (some ⟨b, o, none⟩) ((q + 1)) (0) Z1 Z2 W d1 d2 (k2.below hW) (k4.below hW) (k1.below hW) (k3.below hW) (by omega) (by omega))
        rw [lz1, lz2] at KC
        have bS := alloc_below w2 (.cells #[.slice (some ⟨b, o, none⟩) q (q + 1), .slice (some ⟨b, o, none⟩) 0 0] 22)
        have bP := alloc_below w2 (.cells #[.int .i64 0, .slice none 0 0] 24)
        have zS := World.size_alloc w2 (.cells #[.slice (some ⟨b, o, none⟩) q (q + 1), .slice (some ⟨b, o, none⟩) 0 0] 22)
        have zP := World.size_alloc w2 (.cells #[.int .i64 0, .slice none 0 0] 24)
        have zSP : ((w2.alloc (.cells #[.slice (some ⟨b, o, none⟩) q (q + 1), .slice (some ⟨b, o, none⟩) 0 0] 22)).alloc (.cells #[.int .i64 0, .slice none 0 0] 24)).heap.size = w2.heap.size + 2 := by rw [World.size_alloc, zS]
        have zPS : ((w2.alloc (.cells #[.int .i64 0, .slice none 0 0] 24)).alloc (.cells #[.slice (some ⟨b, o, none⟩) q (q + 1), .slice (some ⟨b, o, none⟩) 0 0] 22)).heap.size = w2.heap.size + 2 := by rw [World.size_alloc, zP]
        have bSP := bS.trans ((alloc_below (w2.alloc (.cells #[.slice (some ⟨b, o, none⟩) q (q + 1), .slice (some ⟨b, o, none⟩) 0 0] 22)) (.cells #[.int .i64 0, .slice none 0 0] 24)).mono bS.size)
        have bPS := bP.trans ((alloc_below (w2.alloc (.cells #[.int .i64 0, .slice none 0 0] 24)) (.cells #[.slice (some ⟨b, o, none⟩) q (q + 1), .slice (some ⟨b, o, none⟩) 0 0] 22)).mono bP.size)
        obtain ⟨s0, s1⟩ := new_pair w2 (.slice (some ⟨b, o, none⟩) q (q + 1)) (.slice (some ⟨b, o, none⟩) 0 0) 22 rfl
        obtain ⟨t0, t1⟩ := new_pair (w2.alloc (.cells #[.int .i64 0, .slice none 0 0] 24)) (.slice (some ⟨b, o, none⟩) q (q + 1)) (.slice (some ⟨b, o, none⟩) 0 0) 22 (g := w2.heap.size + 1) (by rw [zP])
        have C1 := Lib.hid (KC.out w2.heap.size 2 (w2.alloc (.cells #[.slice (some ⟨b, o, none⟩) q (q + 1), .slice (some ⟨b, o, none⟩) 0 0] 22)).drew s0 s1 bS.drew)
        have C2 := Lib.hid (KC.out w2.heap.size 2 ((w2.alloc (.cells #[.slice (some ⟨b, o, none⟩) q (q + 1), .slice (some ⟨b, o, none⟩) 0 0] 22)).alloc (.cells #[.int .i64 0, .slice none 0 0] 24)).drew (old_cell s0 _) (old_cell s1 _) bSP.drew)
        have C3 := Lib.hid (KC.out (w2.heap.size + 1) 2 ((w2.alloc (.cells #[.int .i64 0, .slice none 0 0] 24)).alloc (.cells #[.slice (some ⟨b, o, none⟩) q (q + 1), .slice (some ⟨b, o, none⟩) 0 0] 22)).drew t0 t1 bPS.drew)
        have D2 := Lib.hid (PBox.new (w2.alloc (.cells #[.slice (some ⟨b, o, none⟩) q (q + 1), .slice (some ⟨b, o, none⟩) 0 0] 22)) 0 none 0 0 24 (g := w2.heap.size + 1) (by rw [zS]))
        have D3 := Lib.hid (PBox.new w2 0 none 0 0 24 (g := w2.heap.size) rfl)
        have zlt := cell_lt x0'
        clear s0 s1 t0 t1
        go_wp2
        clear hw2
        go_region_held3 (fun w' => w'.cell? ⟨w.heap.size, 0, none⟩ = some (.int .i64 m) ∧ w'.cell? ⟨w.heap.size, 1, none⟩ = some (.slice (some ⟨b, o, none⟩) vs.length (q + 1))) ((refine ⟨?_, ?_⟩ <;> (first | assumption | go_keep | exact old_cell x0' _ | exact old_cell x1' _ | (rw [World.cell?_setCell_other _ _ _ _ (by simp <;> omega), World.cell?_setCell_other _ _ _ _ (by simp <;> omega)]; assumption)))) (first
          | (go_at_call 31; (with_reducible refine C1.out.mono ?_); rintro er w3 ⟨A3, c3, rfl, o3, b3⟩; have o3 := o3.mono bS.size (Nat.le_refl _); have hb3 := bS.drew.trans (b3.mono bS.size); have x0' := cell_carry b3 (old_cell x0' _); have x1' := cell_carry b3 (old_cell x1' _))
          | (go_at_call 31; (with_reducible refine C2.out.mono ?_); rintro er w3 ⟨A3, c3, rfl, o3, b3⟩; have o3 := o3.mono (Nat.le_of_eq zSP.symm) (Nat.le_refl _); have hb3 := bSP.drew.trans (b3.mono bSP.size); obtain ⟨z0, z1⟩ := D2.out; have zf0 := (b3.frozen (p := ⟨w2.heap.size + 1, 0, none⟩) (cell_lt z0)).trans (new_free _ _ _ (by rw [zS]) 0); have zf1 := (b3.frozen (p := ⟨w2.heap.size + 1, 1, none⟩) (cell_lt z1)).trans (new_free _ _ _ (by rw [zS]) 1); have z0 := cell_carry b3 z0; have z1 := cell_carry b3 z1; have x0' := cell_carry b3 (old_cell (old_cell x0' _) _); have x1' := cell_carry b3 (old_cell (old_cell x1' _) _))
          | (go_at_call 31; (with_reducible refine C3.out.mono ?_); rintro er w3 ⟨A3, c3, rfl, o3, b3⟩; have o3 := o3.mono (Nat.le_of_eq zPS.symm) (Nat.le_refl _); have hb3 := bPS.drew.trans (b3.mono bPS.size); obtain ⟨z0, z1⟩ := D3.out; have zf0 := (b3.frozen (p := ⟨w2.heap.size, 0, none⟩) (cell_lt (old_cell z0 (.cells #[.slice (some ⟨b, o, none⟩) q (q + 1), .slice (some ⟨b, o, none⟩) 0 0] 22)))).trans (old_free z0 (new_free _ _ _ rfl 0) _); have zf1 := (b3.frozen (p := ⟨w2.heap.size, 1, none⟩) (cell_lt (old_cell z1 (.cells #[.slice (some ⟨b, o, none⟩) q (q + 1), .slice (some ⟨b, o, none⟩) 0 0] 22)))).trans (old_free z1 (new_free _ _ _ rfl 1) _); have z0 := cell_carry b3 (old_cell z0 _); have z1 := cell_carry b3 (old_cell z1 _); have x0' := cell_carry b3 (old_cell (old_cell x0' _) _); have x1' := cell_carry b3 (old_cell (old_cell x1' _) _)))
        all_goals clear C1 C2 C3 D2 D3 KC bS bP bSP bPS zS zP zSP zPS
        · obtain ⟨u0, u1⟩ := new_pair w3 (.int .i64 m) (.slice A3 q c3) 24 rfl
          have bX := alloc_below w3 (.cells #[.int .i64 m, .slice A3 q c3] 24)
          have hbf := hb3.trans (bX.mono hb3.size)
          have oF := o3.belowW bX
          generalize w3.alloc (.cells #[.int .i64 m, .slice A3 q c3] 24) = W5 at *
          have hv5 := (oF.votes ((k1.below hbf).append (k3.below hbf))).2
          rw [List.length_append, lz1, lz2, List.map_append, hz1, hz2] at hv5
          have y5 := cell_carry hbf y0
          have hin5 := hin2.below hbf
          have hb5 := hb2.trans (hbf.mono hb2.size)
          have K1 : Hid (∀ L : Later W5, Calls Tryz.prog 7 #[.int .i64 rule, .agg #[.int .i64 m, .slice A3 q c3]] L.W fun e W' => e = .returned (.int .i64 (winnerR rule m (vs.take q ++ vs.drop (q + 1)))) ∧ ∃ L' : Later W5, W' = L'.W) := fun L => L.call (KNq.out A3 _ c3 L.W (hv5.below L.h))
          have K2 : Hid (∀ L : Later W5, Calls Tryz.prog 32 #[.slice A' v.r.length c', .int .i64 (winnerR rule m (vs.take q ++ vs.drop (q + 1))), .int .i64 a] L.W fun e W' => e = .returned (.bool false) ∧ ∃ L' : Later W5, W' = L'.W) := fun L => by rw [← HSq.out]; exact L.call_same (implPrefers A' _ c' v.r _ _ L.W (hin5.below L.h) (by omega))
          have p0 : ∀ L : Later W5, L.W.cell? ⟨wr.heap.size, 0, none⟩ = some (.slice A' v.r.length c') := fun L => L.cell y5
          have p1 : ∀ L : Later W5, L.W.cell? ⟨w3.heap.size, 0, none⟩ = some (.int .i64 m) := fun L => L.cell u0
          have p2 : ∀ L : Later W5, L.W.cell? ⟨w3.heap.size, 1, none⟩ = some (.slice A3 q c3) := fun L => L.cell u1
          generalize winnerR rule m (vs.take q ++ vs.drop (q + 1)) = wq at *
          clear hv5 oF y5 hin5 u0 u1 o3 b3 x0' x1' hb3 k1 k2 k3 k4 KNq HSq
          go_upto_region 8 with fail
          refine wp_region_later (by kernel_rfl) (by kernel_rfl) ?_
          repeat (go_big_quiet_step (first | (with_reducible exact K1.out _) | (with_reducible exact K2.out _)))
          (refine wpQuiet_nil ?_; rintro wl ⟨L_, hwl_⟩; have hbl := L_.h; rw [← hwl_] at hbl; clear hwl_ L_)
          have hb6 := hb5.trans (hbl.mono hb5.size)
          clear p0 p1 p2 K1 K2 hbl hb5
          go_wp2
          go_roundw
          case rel => exact ⟨q + 1, by omega, by go_num, hb6⟩
          case measure => simp [intOf]; omega
        · obtain ⟨u0, u1⟩ := pair_set z0 z1 (.int .i64 m) (.slice A3 q c3)
          have nX := (Only.setCell1 w3 (w2.heap.size + 1) 0 (.int .i64 m)).trans (Only.setCell1 (w3.setCell ⟨w2.heap.size + 1, 0, none⟩ (.int .i64 m)) (w2.heap.size + 1) 1 (.slice A3 q c3))
          have hbf := hb3.trans (nX.toBelow (by omega) hb3.size)
          have oF := o3.only nX (.inr (by omega))
          generalize (w3.setCell ⟨w2.heap.size + 1, 0, none⟩ (.int .i64 m)).setCell ⟨w2.heap.size + 1, 1, none⟩ (.slice A3 q c3) = W5 at *
          clear z0 z1 zf0 zf1 nX
          have hv5 := (oF.votes ((k1.below hbf).append (k3.below hbf))).2
          rw [List.length_append, lz1, lz2, List.map_append, hz1, hz2] at hv5
          have y5 := cell_carry hbf y0
          have hin5 := hin2.below hbf
          have hb5 := hb2.trans (hbf.mono hb2.size)
          have K1 : Hid (∀ L : Later W5, Calls Tryz.prog 7 #[.int .i64 rule, .agg #[.int .i64 m, .slice A3 q c3]] L.W fun e W' => e = .returned (.int .i64 (winnerR rule m (vs.take q ++ vs.drop (q + 1)))) ∧ ∃ L' : Later W5, W' = L'.W) := fun L => L.call (KNq.out A3 _ c3 L.W (hv5.below L.h))
          have K2 : Hid (∀ L : Later W5, Calls Tryz.prog 32 #[.slice A' v.r.length c', .int .i64 (winnerR rule m (vs.take q ++ vs.drop (q + 1))), .int .i64 a] L.W fun e W' => e = .returned (.bool false) ∧ ∃ L' : Later W5, W' = L'.W) := fun L => by rw [← HSq.out]; exact L.call_same (implPrefers A' _ c' v.r _ _ L.W (hin5.below L.h) (by omega))
          have p0 : ∀ L : Later W5, L.W.cell? ⟨wr.heap.size, 0, none⟩ = some (.slice A' v.r.length c') := fun L => L.cell y5
          have p1 : ∀ L : Later W5, L.W.cell? ⟨w2.heap.size + 1, 0, none⟩ = some (.int .i64 m) := fun L => L.cell u0
          have p2 : ∀ L : Later W5, L.W.cell? ⟨w2.heap.size + 1, 1, none⟩ = some (.slice A3 q c3) := fun L => L.cell u1
          generalize winnerR rule m (vs.take q ++ vs.drop (q + 1)) = wq at *
          clear hv5 oF y5 hin5 u0 u1 o3 b3 x0' x1' hb3 k1 k2 k3 k4 KNq HSq
          go_upto_region 8 with fail
          refine wp_region_later (by kernel_rfl) (by kernel_rfl) ?_
          repeat (go_big_quiet_step (first | (with_reducible exact K1.out _) | (with_reducible exact K2.out _)))
          (refine wpQuiet_nil ?_; rintro wl ⟨L_, hwl_⟩; have hbl := L_.h; rw [← hwl_] at hbl; clear hwl_ L_)
          have hb6 := hb5.trans (hbl.mono hb5.size)
          clear p0 p1 p2 K1 K2 hbl hb5
          go_wp2
          go_roundw
          case rel => exact ⟨q + 1, by omega, by go_num, hb6⟩
          case measure => simp [intOf]; omega
        · obtain ⟨u0, u1⟩ := pair_set z0 z1 (.int .i64 m) (.slice A3 q c3)
          have nX := (Only.setCell1 w3 (w2.heap.size) 0 (.int .i64 m)).trans (Only.setCell1 (w3.setCell ⟨w2.heap.size, 0, none⟩ (.int .i64 m)) (w2.heap.size) 1 (.slice A3 q c3))
          have hbf := hb3.trans (nX.toBelow (by omega) hb3.size)
          have oF := o3.only nX (.inr (by omega))
          generalize (w3.setCell ⟨w2.heap.size, 0, none⟩ (.int .i64 m)).setCell ⟨w2.heap.size, 1, none⟩ (.slice A3 q c3) = W5 at *
          clear z0 z1 zf0 zf1 nX
          have hv5 := (oF.votes ((k1.below hbf).append (k3.below hbf))).2
          rw [List.length_append, lz1, lz2, List.map_append, hz1, hz2] at hv5
          have y5 := cell_carry hbf y0
          have hin5 := hin2.below hbf
          have hb5 := hb2.trans (hbf.mono hb2.size)
          have K1 : Hid (∀ L : Later W5, Calls Tryz.prog 7 #[.int .i64 rule, .agg #[.int .i64 m, .slice A3 q c3]] L.W fun e W' => e = .returned (.int .i64 (winnerR rule m (vs.take q ++ vs.drop (q + 1)))) ∧ ∃ L' : Later W5, W' = L'.W) := fun L => L.call (KNq.out A3 _ c3 L.W (hv5.below L.h))
          have K2 : Hid (∀ L : Later W5, Calls Tryz.prog 32 #[.slice A' v.r.length c', .int .i64 (winnerR rule m (vs.take q ++ vs.drop (q + 1))), .int .i64 a] L.W fun e W' => e = .returned (.bool false) ∧ ∃ L' : Later W5, W' = L'.W) := fun L => by rw [← HSq.out]; exact L.call_same (implPrefers A' _ c' v.r _ _ L.W (hin5.below L.h) (by omega))
          have p0 : ∀ L : Later W5, L.W.cell? ⟨wr.heap.size, 0, none⟩ = some (.slice A' v.r.length c') := fun L => L.cell y5
          have p1 : ∀ L : Later W5, L.W.cell? ⟨w2.heap.size, 0, none⟩ = some (.int .i64 m) := fun L => L.cell u0
          have p2 : ∀ L : Later W5, L.W.cell? ⟨w2.heap.size, 1, none⟩ = some (.slice A3 q c3) := fun L => L.cell u1
          generalize winnerR rule m (vs.take q ++ vs.drop (q + 1)) = wq at *
          clear hv5 oF y5 hin5 u0 u1 o3 b3 x0' x1' hb3 k1 k2 k3 k4 KNq HSq
          go_upto_region 8 with fail
          refine wp_region_later (by kernel_rfl) (by kernel_rfl) ?_
          repeat (go_big_quiet_step (first | (with_reducible exact K1.out _) | (with_reducible exact K2.out _)))
          (refine wpQuiet_nil ?_; rintro wl ⟨L_, hwl_⟩; have hbl := L_.h; rw [← hwl_] at hbl; clear hwl_ L_)
          have hb6 := hb5.trans (hbl.mono hb5.size)
          clear p0 p1 p2 K1 K2 hbl hb5
          go_wp2
          go_roundw
          case rel => exact ⟨q + 1, by omega, by go_num, hb6⟩
          case measure => simp [intOf]; omega
      · skip
        obtain ⟨Z2, hz2, k3, k4⟩ := (h2.drop (k := q + 1) (by omega)).cells
        have lz2 : Z2.length = vs.length - (q + 1) := by have := congrArg List.length hz2; simpa using this
        have KC := Lib.hid (fun b0 cc W d1 d2 (hW : Below w2.heap.size w2 W) => concatV_any b0 0 cc (some ⟨b, o, none⟩) (some ⟨b, o + (q + 1) * 2, none⟩) (c) ((c - (q + 1))) Z1 Z2 W d1 d2 (k2.below hW) (k4.below hW) (k1.below hW) (k3.below hW) (by omega) (by omega))
        rw [lz1, lz2] at KC
        have bS := alloc_below w2 (.cells #[.slice (some ⟨b, o, none⟩) q c, .slice (some ⟨b, o + (q + 1) * 2, none⟩) (vs.length - (q + 1)) (c - (q + 1))] 22)
        have bP := alloc_below w2 (.cells #[.int .i64 0, .slice none 0 0] 24)
        have zS := World.size_alloc w2 (.cells #[.slice (some ⟨b, o, none⟩) q c, .slice (some ⟨b, o + (q + 1) * 2, none⟩) (vs.length - (q + 1)) (c - (q + 1))] 22)
        have zP := World.size_alloc w2 (.cells #[.int .i64 0, .slice none 0 0] 24)
        have zSP : ((w2.alloc (.cells #[.slice (some ⟨b, o, none⟩) q c, .slice (some ⟨b, o + (q + 1) * 2, none⟩) (vs.length - (q + 1)) (c - (q + 1))] 22)).alloc (.cells #[.int .i64 0, .slice none 0 0] 24)).heap.size = w2.heap.size + 2 := by rw [World.size_alloc, zS]
        have zPS : ((w2.alloc (.cells #[.int .i64 0, .slice none 0 0] 24)).alloc (.cells #[.slice (some ⟨b, o, none⟩) q c, .slice (some ⟨b, o + (q + 1) * 2, none⟩) (vs.length - (q + 1)) (c - (q + 1))] 22)).heap.size = w2.heap.size + 2 := by rw [World.size_alloc, zP]
        have bSP := bS.trans ((alloc_below (w2.alloc (.cells #[.slice (some ⟨b, o, none⟩) q c, .slice (some ⟨b, o + (q + 1) * 2, none⟩) (vs.length - (q + 1)) (c - (q + 1))] 22)) (.cells #[.int .i64 0, .slice none 0 0] 24)).mono bS.size)
        have bPS := bP.trans ((alloc_below (w2.alloc (.cells #[.int .i64 0, .slice none 0 0] 24)) (.cells #[.slice (some ⟨b, o, none⟩) q c, .slice (some ⟨b, o + (q + 1) * 2, none⟩) (vs.length - (q + 1)) (c - (q + 1))] 22)).mono bP.size)
        obtain ⟨s0, s1⟩ := new_pair w2 (.slice (some ⟨b, o, none⟩) q c) (.slice (some ⟨b, o + (q + 1) * 2, none⟩) (vs.length - (q + 1)) (c - (q + 1))) 22 rfl
        obtain ⟨t0, t1⟩ := new_pair (w2.alloc (.cells #[.int .i64 0, .slice none 0 0] 24)) (.slice (some ⟨b, o, none⟩) q c) (.slice (some ⟨b, o + (q + 1) * 2, none⟩) (vs.length - (q + 1)) (c - (q + 1))) 22 (g := w2.heap.size + 1) (by rw [zP])
        have C1 := Lib.hid (KC.out w2.heap.size 2 (w2.alloc (.cells #[.slice (some ⟨b, o, none⟩) q c, .slice (some ⟨b, o + (q + 1) * 2, none⟩) (vs.length - (q + 1)) (c - (q + 1))] 22)).drew s0 s1 bS.drew)
        have C2 := Lib.hid (KC.out w2.heap.size 2 ((w2.alloc (.cells #[.slice (some ⟨b, o, none⟩) q c, .slice (some ⟨b, o + (q + 1) * 2, none⟩) (vs.length - (q + 1)) (c - (q + 1))] 22)).alloc (.cells #[.int .i64 0, .slice none 0 0] 24)).drew (old_cell s0 _) (old_cell s1 _) bSP.drew)
        have C3 := Lib.hid (KC.out (w2.heap.size + 1) 2 ((w2.alloc (.cells #[.int .i64 0, .slice none 0 0] 24)).alloc (.cells #[.slice (some ⟨b, o, none⟩) q c, .slice (some ⟨b, o + (q + 1) * 2, none⟩) (vs.length - (q + 1)) (c - (q + 1))] 22)).drew t0 t1 bPS.drew)
        have D2 := Lib.hid (PBox.new (w2.alloc (.cells #[.slice (some ⟨b, o, none⟩) q c, .slice (some ⟨b, o + (q + 1) * 2, none⟩) (vs.length - (q + 1)) (c - (q + 1))] 22)) 0 none 0 0 24 (g := w2.heap.size + 1) (by rw [zS]))
        have D3 := Lib.hid (PBox.new w2 0 none 0 0 24 (g := w2.heap.size) rfl)
        have zlt := cell_lt x0'
        clear s0 s1 t0 t1
        go_wp2
        clear hw2
        go_region_held3 (fun w' => w'.cell? ⟨w.heap.size, 0, none⟩ = some (.int .i64 m) ∧ w'.cell? ⟨w.heap.size, 1, none⟩ = some (.slice (some ⟨b, o, none⟩) vs.length c)) ((refine ⟨?_, ?_⟩ <;> (first | assumption | go_keep | exact old_cell x0' _ | exact old_cell x1' _ | (rw [World.cell?_setCell_other _ _ _ _ (by simp <;> omega), World.cell?_setCell_other _ _ _ _ (by simp <;> omega)]; assumption)))) (first
          | (go_at_call 31; (with_reducible refine C1.out.mono ?_); rintro er w3 ⟨A3, c3, rfl, o3, b3⟩; have o3 := o3.mono bS.size (Nat.le_refl _); have hb3 := bS.drew.trans (b3.mono bS.size); have x0' := cell_carry b3 (old_cell x0' _); have x1' := cell_carry b3 (old_cell x1' _))
          | (go_at_call 31; (with_reducible refine C2.out.mono ?_); rintro er w3 ⟨A3, c3, rfl, o3, b3⟩; have o3 := o3.mono (Nat.le_of_eq zSP.symm) (Nat.le_refl _); have hb3 := bSP.drew.trans (b3.mono bSP.size); obtain ⟨z0, z1⟩ := D2.out; have zf0 := (b3.frozen (p := ⟨w2.heap.size + 1, 0, none⟩) (cell_lt z0)).trans (new_free _ _ _ (by rw [zS]) 0); have zf1 := (b3.frozen (p := ⟨w2.heap.size + 1, 1, none⟩) (cell_lt z1)).trans (new_free _ _ _ (by rw [zS]) 1); have z0 := cell_carry b3 z0; have z1 := cell_carry b3 z1; have x0' := cell_carry b3 (old_cell (old_cell x0' _) _); have x1' := cell_carry b3 (old_cell (old_cell x1' _) _))
          | (go_at_call 31; (with_reducible refine C3.out.mono ?_); rintro er w3 ⟨A3, c3, rfl, o3, b3⟩; have o3 := o3.mono (Nat.le_of_eq zPS.symm) (Nat.le_refl _); have hb3 := bPS.drew.trans (b3.mono bPS.size); obtain ⟨z0, z1⟩ := D3.out; have zf0 := (b3.frozen (p := ⟨w2.heap.size, 0, none⟩) (cell_lt (old_cell z0 (.cells #[.slice (some ⟨b, o, none⟩) q c, .slice (some ⟨b, o + (q + 1) * 2, none⟩) (vs.length - (q + 1)) (c - (q + 1))] 22)))).trans (old_free z0 (new_free _ _ _ rfl 0) _); have zf1 := (b3.frozen (p := ⟨w2.heap.size, 1, none⟩) (cell_lt (old_cell z1 (.cells #[.slice (some ⟨b, o, none⟩) q c, .slice (some ⟨b, o + (q + 1) * 2, none⟩) (vs.length - (q + 1)) (c - (q + 1))] 22)))).trans (old_free z1 (new_free _ _ _ rfl 1) _); have z0 := cell_carry b3 (old_cell z0 _); have z1 := cell_carry b3 (old_cell z1 _); have x0' := cell_carry b3 (old_cell (old_cell x0' _) _); have x1' := cell_carry b3 (old_cell (old_cell x1' _) _)))
        all_goals clear C1 C2 C3 D2 D3 KC bS bP bSP bPS zS zP zSP zPS
        · obtain ⟨u0, u1⟩ := new_pair w3 (.int .i64 m) (.slice A3 (q + (vs.length - (q + 1))) c3) 24 rfl
          have bX := alloc_below w3 (.cells #[.int .i64 m, .slice A3 (q + (vs.length - (q + 1))) c3] 24)
          have hbf := hb3.trans (bX.mono hb3.size)
          have oF := o3.belowW bX
          generalize w3.alloc (.cells #[.int .i64 m, .slice A3 (q + (vs.length - (q + 1))) c3] 24) = W5 at *
          have hv5 := (oF.votes ((k1.below hbf).append (k3.below hbf))).2
          rw [List.length_append, lz1, lz2, List.map_append, hz1, hz2] at hv5
          have y5 := cell_carry hbf y0
          have hin5 := hin2.below hbf
          have hb5 := hb2.trans (hbf.mono hb2.size)
          have K1 : Hid (∀ L : Later W5, Calls Tryz.prog 7 #[.int .i64 rule, .agg #[.int .i64 m, .slice A3 (q + (vs.length - (q + 1))) c3]] L.W fun e W' => e = .returned (.int .i64 (winnerR rule m (vs.take q ++ vs.drop (q + 1)))) ∧ ∃ L' : Later W5, W' = L'.W) := fun L => L.call (KNq.out A3 _ c3 L.W (hv5.below L.h))
          have K2 : Hid (∀ L : Later W5, Calls Tryz.prog 32 #[.slice A' v.r.length c', .int .i64 (winnerR rule m (vs.take q ++ vs.drop (q + 1))), .int .i64 a] L.W fun e W' => e = .returned (.bool false) ∧ ∃ L' : Later W5, W' = L'.W) := fun L => by rw [← HSq.out]; exact L.call_same (implPrefers A' _ c' v.r _ _ L.W (hin5.below L.h) (by omega))
          have p0 : ∀ L : Later W5, L.W.cell? ⟨wr.heap.size, 0, none⟩ = some (.slice A' v.r.length c') := fun L => L.cell y5
          have p1 : ∀ L : Later W5, L.W.cell? ⟨w3.heap.size, 0, none⟩ = some (.int .i64 m) := fun L => L.cell u0
          have p2 : ∀ L : Later W5, L.W.cell? ⟨w3.heap.size, 1, none⟩ = some (.slice A3 (q + (vs.length - (q + 1))) c3) := fun L => L.cell u1
          generalize winnerR rule m (vs.take q ++ vs.drop (q + 1)) = wq at *
          clear hv5 oF y5 hin5 u0 u1 o3 b3 x0' x1' hb3 k1 k2 k3 k4 KNq HSq
          go_upto_region 8 with fail
          refine wp_region_later (by kernel_rfl) (by kernel_rfl) ?_
          repeat (go_big_quiet_step (first | (with_reducible exact K1.out _) | (with_reducible exact K2.out _)))
          (refine wpQuiet_nil ?_; rintro wl ⟨L_, hwl_⟩; have hbl := L_.h; rw [← hwl_] at hbl; clear hwl_ L_)
          have hb6 := hb5.trans (hbl.mono hb5.size)
          clear p0 p1 p2 K1 K2 hbl hb5
          go_wp2
          go_roundw
          case rel => exact ⟨q + 1, by omega, by go_num, hb6⟩
          case measure => simp [intOf]; omega
        · obtain ⟨u0, u1⟩ := pair_set z0 z1 (.int .i64 m) (.slice A3 (q + (vs.length - (q + 1))) c3)
          have nX := (Only.setCell1 w3 (w2.heap.size + 1) 0 (.int .i64 m)).trans (Only.setCell1 (w3.setCell ⟨w2.heap.size + 1, 0, none⟩ (.int .i64 m)) (w2.heap.size + 1) 1 (.slice A3 (q + (vs.length - (q + 1))) c3))
          have hbf := hb3.trans (nX.toBelow (by omega) hb3.size)
          have oF := o3.only nX (.inr (by omega))
          generalize (w3.setCell ⟨w2.heap.size + 1, 0, none⟩ (.int .i64 m)).setCell ⟨w2.heap.size + 1, 1, none⟩ (.slice A3 (q + (vs.length - (q + 1))) c3) = W5 at *
          clear z0 z1 zf0 zf1 nX
          have hv5 := (oF.votes ((k1.below hbf).append (k3.below hbf))).2
          rw [List.length_append, lz1, lz2, List.map_append, hz1, hz2] at hv5
          have y5 := cell_carry hbf y0
          have hin5 := hin2.below hbf
          have hb5 := hb2.trans (hbf.mono hb2.size)
          have K1 : Hid (∀ L : Later W5, Calls Tryz.prog 7 #[.int .i64 rule, .agg #[.int .i64 m, .slice A3 (q + (vs.length - (q + 1))) c3]] L.W fun e W' => e = .returned (.int .i64 (winnerR rule m (vs.take q ++ vs.drop (q + 1)))) ∧ ∃ L' : Later W5, W' = L'.W) := fun L => L.call (KNq.out A3 _ c3 L.W (hv5.below L.h))
          have K2 : Hid (∀ L : Later W5, Calls Tryz.prog 32 #[.slice A' v.r.length c', .int .i64 (winnerR rule m (vs.take q ++ vs.drop (q + 1))), .int .i64 a] L.W fun e W' => e = .returned (.bool false) ∧ ∃ L' : Later W5, W' = L'.W) := fun L => by rw [← HSq.out]; exact L.call_same (implPrefers A' _ c' v.r _ _ L.W (hin5.below L.h) (by omega))
          have p0 : ∀ L : Later W5, L.W.cell? ⟨wr.heap.size, 0, none⟩ = some (.slice A' v.r.length c') := fun L => L.cell y5
          have p1 : ∀ L : Later W5, L.W.cell? ⟨w2.heap.size + 1, 0, none⟩ = some (.int .i64 m) := fun L => L.cell u0
          have p2 : ∀ L : Later W5, L.W.cell? ⟨w2.heap.size + 1, 1, none⟩ = some (.slice A3 (q + (vs.length - (q + 1))) c3) := fun L => L.cell u1
          generalize winnerR rule m (vs.take q ++ vs.drop (q + 1)) = wq at *
          clear hv5 oF y5 hin5 u0 u1 o3 b3 x0' x1' hb3 k1 k2 k3 k4 KNq HSq
          go_upto_region 8 with fail
          refine wp_region_later (by kernel_rfl) (by kernel_rfl) ?_
          repeat (go_big_quiet_step (first | (with_reducible exact K1.out _) | (with_reducible exact K2.out _)))
          (refine wpQuiet_nil ?_; rintro wl ⟨L_, hwl_⟩; have hbl := L_.h; rw [← hwl_] at hbl; clear hwl_ L_)
          have hb6 := hb5.trans (hbl.mono hb5.size)
          clear p0 p1 p2 K1 K2 hbl hb5
          go_wp2
          go_roundw
          case rel => exact ⟨q + 1, by omega, by go_num, hb6⟩
          case measure => simp [intOf]; omega
        · obtain ⟨u0, u1⟩ := pair_set z0 z1 (.int .i64 m) (.slice A3 (q + (vs.length - (q + 1))) c3)
          have nX := (Only.setCell1 w3 (w2.heap.size) 0 (.int .i64 m)).trans (Only.setCell1 (w3.setCell ⟨w2.heap.size, 0, none⟩ (.int .i64 m)) (w2.heap.size) 1 (.slice A3 (q + (vs.length - (q + 1))) c3))
          have hbf := hb3.trans (nX.toBelow (by omega) hb3.size)
          have oF := o3.only nX (.inr (by omega))
          generalize (w3.setCell ⟨w2.heap.size, 0, none⟩ (.int .i64 m)).setCell ⟨w2.heap.size, 1, none⟩ (.slice A3 (q + (vs.length - (q + 1))) c3) = W5 at *
          clear z0 z1 zf0 zf1 nX
          have hv5 := (oF.votes ((k1.below hbf).append (k3.below hbf))).2
          rw [List.length_append, lz1, lz2, List.map_append, hz1, hz2] at hv5
          have y5 := cell_carry hbf y0
          have hin5 := hin2.below hbf
          have hb5 := hb2.trans (hbf.mono hb2.size)
          have K1 : Hid (∀ L : Later W5, Calls Tryz.prog 7 #[.int .i64 rule, .agg #[.int .i64 m, .slice A3 (q + (vs.length - (q + 1))) c3]] L.W fun e W' => e = .returned (.int .i64 (winnerR rule m (vs.take q ++ vs.drop (q + 1)))) ∧ ∃ L' : Later W5, W' = L'.W) := fun L => L.call (KNq.out A3 _ c3 L.W (hv5.below L.h))
          have K2 : Hid (∀ L : Later W5, Calls Tryz.prog 32 #[.slice A' v.r.length c', .int .i64 (winnerR rule m (vs.take q ++ vs.drop (q + 1))), .int .i64 a] L.W fun e W' => e = .returned (.bool false) ∧ ∃ L' : Later W5, W' = L'.W) := fun L => by rw [← HSq.out]; exact L.call_same (implPrefers A' _ c' v.r _ _ L.W (hin5.below L.h) (by omega))
          have p0 : ∀ L : Later W5, L.W.cell? ⟨wr.heap.size, 0, none⟩ = some (.slice A' v.r.length c') := fun L => L.cell y5
          have p1 : ∀ L : Later W5, L.W.cell? ⟨w2.heap.size, 0, none⟩ = some (.int .i64 m) := fun L => L.cell u0
          have p2 : ∀ L : Later W5, L.W.cell? ⟨w2.heap.size, 1, none⟩ = some (.slice A3 (q + (vs.length - (q + 1))) c3) := fun L => L.cell u1
          generalize winnerR rule m (vs.take q ++ vs.drop (q + 1)) = wq at *
          clear hv5 oF y5 hin5 u0 u1 o3 b3 x0' x1' hb3 k1 k2 k3 k4 KNq HSq
          go_upto_region 8 with fail
          refine wp_region_later (by kernel_rfl) (by kernel_rfl) ?_
          repeat (go_big_quiet_step (first | (with_reducible exact K1.out _) | (with_reducible exact K2.out _)))
          (refine wpQuiet_nil ?_; rintro wl ⟨L_, hwl_⟩; have hbl := L_.h; rw [← hwl_] at hbl; clear hwl_ L_)
          have hb6 := hb5.trans (hbl.mono hb5.size)
          clear p0 p1 p2 K1 K2 hbl hb5
          go_wp2
          go_roundw
          case rel => exact ⟨q + 1, by omega, by go_num, hb6⟩
          case measure => simp [intOf]; omega
    · obtain rfl : q = vs.length := by omega
      have hb6 := hB.trans (hb.mono hB.size)
      go_wp2
      go_ret
      exact ⟨rfl, hb6⟩
end Go.Proofs.YtaanppihgldeaaaGreatDoor
namespace Go.Proofs.YtaanppihgldeaaaGreatDoor
set_option linter.unusedSimpArgs false
set_option linter.unusedVariables false
set_option linter.unusedVariables false
open Go.RowKit

/-- turned so far: the first i and the last i -/
def revF (xs : List Int) (i : Nat) (t : Nat) : Int := if t < i ∨ xs.length ≤ t + i then ix xs (xs.length - 1 - t) else ix xs t
theorem rev_start (xs : List Int) : lfn (revF xs 0) xs.length = xs := by
  apply List.ext_getElem
  · rw [lfn_len]
  · intro t h1 h2
    rw [← ix_lt h1, lfn_ix h2, ← ix_lt h2]
    unfold revF
    rw [if_neg (by omega)]
theorem rev_end (xs : List Int) {i : Nat} (h : xs.length ≤ 2 * i + 1) : lfn (revF xs i) xs.length = xs.reverse := by
  apply List.ext_getElem
  · rw [lfn_len, List.length_reverse]
  · intro t h1 h2
    rw [List.length_reverse] at h2
    rw [← ix_lt h1, lfn_ix h2, ← ix_lt (xs := xs.reverse) (by rw [List.length_reverse]; exact h2), ix_rev h2]
    unfold revF
    split
    · rfl
    · rw [show xs.length - 1 - t = t by omega]
theorem rev_step (xs : List Int) {i : Nat} (h : 2 * i + 1 < xs.length) : ((lfn (revF xs i) xs.length).set i (ix xs (xs.length - 1 - i))).set (xs.length - 1 - i) (ix xs i) = lfn (revF xs (i + 1)) xs.length := by
  rw [lfn_set _ (by omega), lfn_set _ (by omega)]
  refine lfn_ext fun t ht => ?_
  unfold revF
  by_cases e1 : t = xs.length - 1 - i
  · rw [if_pos e1, if_pos (by omega), e1]
    congr 1; omega
  · rw [if_neg e1]
    by_cases e2 : t = i
    · rw [if_pos e2, if_pos (by omega), e2]
    · rw [if_neg e2]
      by_cases e3 : t < i ∨ xs.length ≤ t + i
      · rw [if_pos e3, if_pos (by omega)]
      · rw [if_neg e3, if_neg (by omega)]
theorem revF_ix (xs : List Int) {i : Nat} (h : 2 * i + 1 < xs.length) : ix (lfn (revF xs i) xs.length) i = ix xs i ∧ ix (lfn (revF xs i) xs.length) (xs.length - 1 - i) = ix xs (xs.length - 1 - i) := by
  rw [lfn_ix (by omega), lfn_ix (by omega)]
  unfold revF
  rw [if_neg (by omega), if_neg (by omega)]
  exact ⟨rfl, rfl⟩
set_option maxHeartbeats 1000000 in
theorem reverse_any (g c lo hi : Nat) (xs : List Int) (w : World) (h : OwnI w lo hi (.slice (some ⟨g, 0, none⟩) xs.length c) xs) (hn : xs.length ≤ 1048576) :
    Calls Tryz.prog 147 #[.slice (some ⟨g, 0, none⟩) xs.length c] w fun e w' => (∃ v, e = .returned v) ∧ OwnI w' lo hi (.slice (some ⟨g, 0, none⟩) xs.length c) xs.reverse ∧ Only g (g + 1) w w' := by
  have hs := rev_start xs
  have HEN := Lib.hid (fun i => rev_end xs (i := i))
  have HST := Lib.hid (fun i => rev_step xs (i := i))
  have HIX := Lib.hid (fun i => revF_ix xs (i := i))
  obtain ⟨L, hL⟩ : ∃ L : Nat → List Int, ∀ i, L i = lfn (revF xs i) xs.length := ⟨_, fun _ => rfl⟩
  simp only [← hL] at HEN HST HIX
  have h0 : OwnI w lo hi (.slice (some ⟨g, 0, none⟩) xs.length c) (L 0) := by rw [hL, hs]; exact h
  have gl := h.num
  clear hs hL h
  go_enter Tryz.func147, Tryz.ntmps147
  go_wp2
  go_loopw [2, 3] (fun i j wr => ∃ q : Nat, i = .int .i64 q ∧ j = .int .i64 ((xs.length : Int) - 1 - q) ∧ q ≤ xs.length ∧ OwnI wr lo hi (.slice (some ⟨g, 0, none⟩) xs.length c) (L q) ∧ Only g (g + 1) w wr) (fun i _ _ => xs.length - (intOf i).toNat)
  case atStart => exact ⟨0, rfl, by go_num, Nat.zero_le _, h0, Only.refl _ _ _⟩
  case round =>
    clear h0
    obtain ⟨q, rfl, rfl, hq, ho, hon⟩ := hrel
    by_cases hlt : 2 * q + 1 < xs.length
    · have d1 := ho.cellAt q (by omega)
      have d2 := ho.cellAt (xs.length - 1 - q) (by omega)
      rw [(HIX.out q hlt).1] at d1
      rw [(HIX.out q hlt).2] at d2
      have f1 := ho.frozenAt q
      have f2 := ho.frozenAt (xs.length - 1 - q)
      have od : OwnI wr.drew lo hi (.slice (some ⟨g, 0, none⟩) xs.length c) (L q) := ho
      have s1 := od.stored q (ix xs (xs.length - 1 - q))
      have s2 := s1.1.stored (xs.length - 1 - q) (ix xs q)
      rw [HST.out q hlt] at s2
      have hd : Only g (g + 1) w wr.drew := ⟨hon.os, hon.tape, hon.output, hon.size, hon.block⟩
      have HO := Lib.hid s2.1
      have HB := Lib.hid ((hd.trans s1.2).trans s2.2)
      clear od s1 s2 hd ho hon
      obtain ⟨J, hJ⟩ : ∃ J, xs.length - 1 - q = J := ⟨_, rfl⟩
      have hJ2 : ((xs.length : Int) - 1 - (q : Int)) = (J : Int) := by omega
      rw [hJ] at d2 f2 HO HB
      rw [hJ2]
      have l1 : (q : Int) < (J : Int) := by omega
      have l2 : (J : Int) < (xs.length : Int) := by omega
      have l3 : (q : Int) < (xs.length : Int) := by omega
      have ew1 : IntKind.i64.wrap ((J : Int) - 1) = (J : Int) - 1 := IntWalk.i64_in _ (by omega)
      have HJ := Lib.hid hJ2
      generalize ix xs q = x at *
      generalize ix xs J = y at *
      clear hJ hJ2
      go_upto_region 3 with fail
      go_region
      all_goals
        go_wp2
        go_roundw
        case rel => exact ⟨q + 1, by go_num, by rw [← HJ.out]; congr 1; push_cast; omega, by omega, HO.out, HB.out⟩
        case measure => simp [intOf]; omega
    · have n1 : ¬ ((q : Int) < (xs.length : Int) - 1 - (q : Int)) := by omega
      rw [HEN.out q (by omega)] at ho
      go_wp2
      go_end0
      exact ⟨⟨_, rfl⟩, ho, hon⟩
end Go.Proofs.YtaanppihgldeaaaGreatDoor
