/- Men propose: the reference's walk. -/
import Derived.Test.YtbhkpingpipdpaaPropose1
import Derived.Test.YtbhkpingpipdpaaRepeat
import Derived.Deep.DeepCutAuto
namespace Go.Proofs.Ytbhkpingpipdpaa
set_option linter.unusedVariables false
open Go.RowKit
theorem repTo_set {v : Int} {n k : Nat} (h : k < n) : (repTo v n k).set k v = repTo v n (k + 1) := by
  unfold repTo
  rw [List.set_append_right _ _ (by simp), List.length_replicate, Nat.sub_self]
  rw [show n - k = (n - (k + 1)) + 1 by omega, List.replicate_succ, List.set_cons_zero, List.replicate_succ', List.append_assoc]
  rfl
theorem repTo_all {v : Int} {n : Nat} : repTo v n n = List.replicate n v := by simp [repTo]
theorem repTo_none {v : Int} {n : Nat} : repTo v n 0 = List.replicate n 0 := by simp [repTo]
set_option maxHeartbeats 8000000 in
theorem specProposeMen (A : Option Addr) (n c : Nat) (xss : List (List Int)) (B : Option Addr) (m d : Nat) (yss : List (List Int)) (w : World) (h : RowsAt w A n xss) (hn : n ≤ 1048576) (hx : ∀ xs ∈ xss, xs.length ≤ 1048576)
    (g : RowsAt w B m yss) (hm : m ≤ 1048576) (hy : ∀ xs ∈ yss, xs.length ≤ 1048576) :
    Calls Try.prog 23 #[.agg #[.slice A n c, .slice B m d]] w fun e w' => ∃ A' c', e = .returned (.tuple #[.slice A' (propList xss yss).length c', .int .i64 (propCnt xss yss)]) ∧ OwnI w' w.heap.size w'.heap.size (.slice A' (propList xss yss).length c') (propList xss yss) ∧ (propList xss yss).length ≤ 1048576 ∧ Below w.heap.size w w' := by
  obtain rfl := h.len
  obtain rfl := g.len
  have HX := Lib.hid hx
  have HY := Lib.hid hy
  clear hx hy
  have hK := MktAt.new (c := c) (d := d) h g 26
  have hall := pair_below w (.slice A xss.length c) (.slice B yss.length d) 26
  have hs := World.size_alloc w (.cells #[.slice A xss.length c, .slice B yss.length d] 26)
  have hpl := propList_len (xss := xss) (yss := yss)
  cases h1 : marketOk xss yss
  · have E : Hid (propList xss yss = [] ∧ propCnt xss yss = 0) := by
      unfold propList propCnt
      rw [propose_no h1]
      exact ⟨rfl, rfl⟩
    go_enter Try.func23, Try.ntmps23
    go_wp2_with fail
    generalize w.alloc (.cells #[.slice A xss.length c, .slice B yss.length d] 26) = w0 at *
    (with_reducible refine (specMarketOk _ _ _ _ _ _ _ _ _ hK.men hn HX.out hK.women hm HY.out).mono ?_)
    rintro e w1 ⟨rfl, hb⟩
    rw [h1]
    have hb1 := hall.trans (hb.mono hall.size)
    clear h1 hb
    go_wp2
    go_ret2
    rw [E.out.1, E.out.2]
    exact ⟨none, 0, rfl, OwnI.nil _ _ _, by simp, hb1⟩
  have HP := Lib.hid (propose_yes h1)
  have F := market_facts h1
  have l1 := F.lo
  have l5 := F.hi
  have x0 := hK.c0
  have x1 := hK.c1
  go_enter Try.func23, Try.ntmps23
  go_wp2_with fail
  generalize w.alloc (.cells #[.slice A xss.length c, .slice B yss.length d] 26) = w0 at *
  (with_reducible refine (specMarketOk _ _ _ _ _ _ _ _ _ hK.men hn HX.out hK.women hm HY.out).mono ?_)
  rintro e w1 ⟨rfl, hb⟩
  rw [h1]
  have hK := hK.below hb
  have x0 := hK.c0
  have x1 := hK.c1
  clear h1
  go_upto_region 5 with ((with_reducible refine wpList_make_ints _ rfl _ _ rfl xss.length rfl rfl (by omega) ?_); intro w2 a1 hb2 hs2; replace hs2 := Lib.hid hs2)
  go_upto_region 6 with ((with_reducible refine wpList_make_ints _ rfl _ _ rfl xss.length rfl rfl (by omega) ?_); intro w3 a2 hb3 hs3; replace hs3 := Lib.hid hs3)
  go_upto_region 7 with ((with_reducible refine wpList_make_ints _ rfl _ _ rfl xss.length rfl rfl (by omega) ?_); intro w4 a3 hb4 hs4; replace hs4 := Lib.hid hs4)
  have hs2 := hs2.out
  have hs3 := hs3.out
  have hs4 := hs4.out
  have M0 : PMm w1 xss.length w1.heap.size w2.heap.size w3.heap.size (repTo (-1) xss.length 0) (repTo (-1) xss.length 0) (List.replicate xss.length 0) w4 := by
    rw [repTo_none]
    exact ⟨((a1.belowW hb3).belowW hb4), (a2.belowW hb4), a3, hb2.trans ((hb3.mono (by omega)).trans (hb4.mono (by omega)))⟩
  have P : PBase w A c xss B d yss w1 w1.heap.size w2.heap.size w3.heap.size := ⟨hK, hall.trans (hb.mono hall.size), Nat.le_refl _, by omega, by omega, by omega, by omega, by omega⟩
  have HPP := Lib.hid P
  have n12 := P.n12
  have n13 := P.n13
  have n23 := P.n23
  clear a1 a2 a3 hb2 hb3 hb4 hs2 hs3 hs4 hs hb hK x0 x1 P hall
  generalize w1.heap.size = g1 at *
  generalize w2.heap.size = g2 at *
  generalize w3.heap.size = g3 at *
  have n21 := n12.symm
  have n31 := n13.symm
  have n32 := n23.symm
  have hsq : xss.length * xss.length ≤ 25 := Nat.mul_le_mul l5 l5
  obtain ⟨R, hR⟩ : ∃ R, R = psRun xss yss (xss.length * xss.length) (psInit xss.length) := ⟨_, rfl⟩
  have HR := Lib.hid hR
  have HPL : Hid (propList xss yss = R.wo ∧ propCnt xss yss = (R.cnt : Int)) := by
    constructor
    · unfold propList; rw [HP.out, ← hR]
    · unfold propCnt; rw [HP.out, ← hR]
  clear hR
  go_wp2
  go_loopw [8, 26] (fun _ i wr => ∃ k : Nat, k ≤ xss.length ∧ i = .int .i64 k ∧ PMm w1 xss.length g1 g2 g3 (repTo (-1) xss.length k) (repTo (-1) xss.length k) (List.replicate xss.length 0) wr) (fun _ i _ => xss.length - (intOf i).toNat)
  case atStart => exact ⟨0, Nat.zero_le _, rfl, M0⟩
  case round =>
    obtain ⟨k, hk, rfl, M⟩ := hrel
    clear M0
    obtain ⟨wo, rfl⟩ : ∃ wo, wo = wr := ⟨_, rfl⟩
    by_cases hlt : k < xss.length
    · have c1 := M.o1.cellAt k hlt
      have f1 := M.o1.frozenAt k
      have c2 := M.o2.cellAt k hlt
      have f2 := M.o2.frozenAt k
      have k1 : (0 : Int) ≤ (k : Int) := by omega
      have k2 : (k : Int) < (xss.length : Int) := by omega
      have M1 := HPP.out.st2 (HPP.out.st1 M k (-1)) k (-1)
      rw [repTo_set hlt] at M1
      clear M
      go_wp2
      go_roundw
      case rel => exact ⟨k + 1, by omega, by go_num, M1⟩
      case measure => simp [intOf]; omega
    · obtain rfl : k = xss.length := by omega
      rw [repTo_all] at M
      have M0 : PMm w1 xss.length g1 g2 g3 (psInit xss.length).wo (psInit xss.length).ma (psInit xss.length).ak wo := M
      have G0 := good_init xss
      obtain ⟨s0, hs0⟩ : ∃ s0, s0 = psInit xss.length := ⟨_, rfl⟩
      have HE0 : Hid (s0.cnt = 0) := by show _ = _; rw [hs0]; rfl
      rw [← hs0] at M0 HR G0
      clear hs0 M
      go_wp2
      go_loopw [9, 10, 11] (fun v9 _ _ wr => ∃ (s : PSt) (f : Nat), f + s.cnt = xss.length * xss.length ∧ R = psRun xss yss f s ∧ PGood xss s ∧ v9 = .int .i64 (s.cnt : Int) ∧ PMm w1 xss.length g1 g2 g3 s.wo s.ma s.ak wr) (fun v9 _ _ _ => xss.length * xss.length - (intOf v9).toNat)
      case atStart => exact ⟨s0, xss.length * xss.length, by rw [HE0.out]; rfl, HR.out, G0, by rw [HE0.out]; rfl, M0⟩
      case round =>
        obtain ⟨s, f, hf, hR, G, rfl, M⟩ := hrel
        have HRR := Lib.hid hR
        clear hR M0 G0 HR
        have oi := M.o1.at_
        go_wp2_with fail
        (with_reducible refine (specPlaceOf_any _ _ _ _ _ _ oi (by omega)).mono ?_)
        rintro e w9 ⟨rfl, rfl⟩
        clear oi
        by_cases hneg : place s.wo (-1) < 0
        · have HF : Hid (propList xss yss = s.wo ∧ propCnt xss yss = (s.cnt : Int)) := by
            have := psRun_end (xss := xss) (yss := yss) f hneg
            rw [← HRR.out] at this
            rw [← this]
            exact HPL.out
          have hl := M.o1.num.1
          have HLL : Hid (s.wo.length = xss.length) := hl
          have hbe := HPP.out.bel M
          have hg1 := HPP.out.l1
          have hgb := HPP.out.b.size
          have ho := M.o1.num
          clear hl
          go_wp2
          go_ret2
          rw [HF.out.1, HF.out.2, HLL.out]
          exact ⟨some ⟨g1, 0, none⟩, xss.length, rfl, M.o1.mono (by omega) (by omega), by omega, hbe⟩
        · obtain ⟨i, hi⟩ : ∃ i : Nat, place s.wo (-1) = (i : Int) := ⟨(place s.wo (-1)).toNat, by omega⟩
          clear hneg
          rw [hi]
          obtain ⟨j, v, hil, hw, hj, hjl, hv, hvl, hcnt, G', hcase⟩ := ps_facts F G hi
          have HST := Lib.hid (psRun_step (xss := xss) (yss := yss) (f := f - 1) hi)
          have hff : f - 1 + 1 = f := by omega
          rw [hff, ← HRR.out] at HST
          have hc25 : s.cnt < 25 := by omega
          have K := HPP.out.mkt M
          have x0 := K.c0
          obtain ⟨b, o, A', c', eA, _, hck, hcc, hin⟩ := K.men.at_ hil
          cases eA
          have hrl := rank_len (F.mr i hil)
          obtain ⟨b2, o2, eA', _, hcr⟩ := hin.at_ (show j < (rx xss i).length by omega)
          cases eA'
          have hcv := hcr j (by omega)
          rw [hv] at hcv
          have c3 := M.o3.cellAt i hil
          rw [hj] at c3
          have i1 : (0 : Int) ≤ (i : Int) := by omega
          have i2 : (i : Int) < (xss.length : Int) := by omega
          have j1 : (0 : Int) ≤ (j : Int) := by omega
          have j2 : (j : Int) < ((rx xss i).length : Int) := by omega
          have HJ := Lib.hid hj
          have HW := Lib.hid hw
          have HI := Lib.hid hi
          clear hrl hcr hv hj hw hi hff K G
          go_wp2
          go_quiet (fail)
          have M2 := M.drewN nq
          generalize wr.drewN nq = w2 at *
          clear M x0 hck hcv hin hcc c3
          have c3 := M2.o3.cellAt i hil
          rw [HJ.out] at c3
          have f3 := M2.o3.frozenAt i
          rcases hcase with ⟨hm, hst⟩ | ⟨p, hm, hpl, ⟨hp1, hp2, hst⟩ | ⟨hp1, hp2, hst⟩⟩
          · have HCN : Hid ((psStep xss yss s).cnt = s.cnt + 1) := by show _ = _; rw [hst]
            have M3 := HPP.out.st3 M2 i ((j : Int) + 1)
            go_wp2_with fail
            generalize w2.setCell ⟨g3, i, none⟩ (.int .i64 ((j : Int) + 1)) = w3 at *
            clear c3 f3 M2
            have c2 := M3.o2.cellAt v hvl
            rw [hm] at c2
            have v1 : (0 : Int) ≤ (v : Int) := by omega
            have v3 : (v : Int) < (xss.length : Int) := by omega
            go_quiet (fail)
            have M4 := M3.drewN nq
            generalize w3.drewN nq = w4 at *
            clear M3 c2
            have c2 := M4.o2.cellAt v hvl
            rw [hm] at c2
            have f2 := M4.o2.frozenAt v
            have c1 := M4.o1.cellAt i hil
            have f1 := M4.o1.frozenAt i
            have M5 := HPP.out.st1 (HPP.out.st2 M4 v (i : Int)) i (v : Int)
            have M6 := M5
            have HS3 := Lib.hid hst
            clear hst M4 M5 hm
            go_wp2
            go_roundw
            case rel => first | exact ⟨psStep xss yss s, f - 1, by rw [HCN.out]; omega, HST.out, G', by rw [HCN.out]; go_num, by rw [HS3.out]; exact M6⟩ | ((repeat apply Exists.intro); exact ⟨⟨psStep xss yss s, f - 1, by rw [HCN.out]; omega, HST.out, G', by rw [HCN.out]; go_num, by rw [HS3.out]; exact M6⟩, rfl⟩)
            case measure => simp [intOf]; omega
          · have HCN : Hid ((psStep xss yss s).cnt = s.cnt + 1) := by show _ = _; rw [hst]
            have M3 := HPP.out.st3 M2 i ((j : Int) + 1)
            go_wp2_with fail
            generalize w2.setCell ⟨g3, i, none⟩ (.int .i64 ((j : Int) + 1)) = w3 at *
            clear c3 f3 M2
            have c2 := M3.o2.cellAt v hvl
            rw [hm] at c2
            have v1 : (0 : Int) ≤ (v : Int) := by omega
            have v3 : (v : Int) < (xss.length : Int) := by omega
            have K3 := HPP.out.mkt M3
            have y1 := K3.c1
            obtain ⟨bb, oo, B', d', eB, _, hckw, hccw, hinw⟩ := K3.women.at_ (show v < yss.length by have := F.wl; omega)
            cases eB
            have v2 : (v : Int) < (yss.length : Int) := by have := F.wl; omega
            have rlw : (rx yss v).length ≤ 1099511627776 := by have := rank_len (F.wr v hvl); omega
            have K1 := Lib.hid (fun n => Calls.quiet_of_same (n := n) ((specPrefers _ _ d' _ (i : Int) (p : Int) _ (hinw.drewN n) rlw).mono fun _ _ ⟨he, hw⟩ => ⟨he, hw.symm⟩))
            rw [hp2] at K1
            clear K3
            go_quiet ((with_reducible exact K1.out _))
            have M4 := M3.drewN nq
            generalize w3.drewN nq = w4 at *
            clear M3 y1 hckw hccw hinw c2 K1 hp1 hp2
            have M6 := M4
            have HS3 := Lib.hid hst
            clear hst M4 hm
            go_wp2
            go_roundw
            case rel => first | exact ⟨psStep xss yss s, f - 1, by rw [HCN.out]; omega, HST.out, G', by rw [HCN.out]; go_num, by rw [HS3.out]; exact M6⟩ | ((repeat apply Exists.intro); exact ⟨⟨psStep xss yss s, f - 1, by rw [HCN.out]; omega, HST.out, G', by rw [HCN.out]; go_num, by rw [HS3.out]; exact M6⟩, rfl⟩)
            case measure => simp [intOf]; omega
          · have HCN : Hid ((psStep xss yss s).cnt = s.cnt + 1) := by show _ = _; rw [hst]
            have M3 := HPP.out.st3 M2 i ((j : Int) + 1)
            go_wp2_with fail
            generalize w2.setCell ⟨g3, i, none⟩ (.int .i64 ((j : Int) + 1)) = w3 at *
            clear c3 f3 M2
            have c2 := M3.o2.cellAt v hvl
            rw [hm] at c2
            have v1 : (0 : Int) ≤ (v : Int) := by omega
            have v3 : (v : Int) < (xss.length : Int) := by omega
            have K3 := HPP.out.mkt M3
            have y1 := K3.c1
            obtain ⟨bb, oo, B', d', eB, _, hckw, hccw, hinw⟩ := K3.women.at_ (show v < yss.length by have := F.wl; omega)
            cases eB
            have v2 : (v : Int) < (yss.length : Int) := by have := F.wl; omega
            have rlw : (rx yss v).length ≤ 1099511627776 := by have := rank_len (F.wr v hvl); omega
            have K1 := Lib.hid (fun n => Calls.quiet_of_same (n := n) ((specPrefers _ _ d' _ (i : Int) (p : Int) _ (hinw.drewN n) rlw).mono fun _ _ ⟨he, hw⟩ => ⟨he, hw.symm⟩))
            rw [hp2] at K1
            clear K3
            go_quiet ((with_reducible exact K1.out _))
            have M4 := M3.drewN nq
            generalize w3.drewN nq = w4 at *
            clear M3 y1 hckw hccw hinw c2 K1 hp1 hp2
            have c2 := M4.o2.cellAt v hvl
            rw [hm] at c2
            have cp := M4.o1.cellAt p hpl
            have fp := M4.o1.frozenAt p
            have p1 : (0 : Int) ≤ (p : Int) := by omega
            have p2 : (p : Int) < (xss.length : Int) := by omega
            have M5 := HPP.out.st1 M4 p (-1)
            go_upto_region 23 with fail
            generalize w4.setCell ⟨g1, p, none⟩ (.int .i64 (-1)) = w5 at *
            clear c2 cp fp M4
            have c2 := M5.o2.cellAt v hvl
            have f2 := M5.o2.frozenAt v
            have c1 := M5.o1.cellAt i hil
            have f1 := M5.o1.frozenAt i
            have M5 := HPP.out.st1 (HPP.out.st2 M5 v (i : Int)) i (v : Int)
            have M6 := M5
            have HS3 := Lib.hid hst
            clear hst M5 hm
            go_wp2
            go_roundw
            case rel => first | exact ⟨psStep xss yss s, f - 1, by rw [HCN.out]; omega, HST.out, G', by rw [HCN.out]; go_num, by rw [HS3.out]; exact M6⟩ | ((repeat apply Exists.intro); exact ⟨⟨psStep xss yss s, f - 1, by rw [HCN.out]; omega, HST.out, G', by rw [HCN.out]; go_num, by rw [HS3.out]; exact M6⟩, rfl⟩)
            case measure => simp [intOf]; omega
end Go.Proofs.Ytbhkpingpipdpaa
