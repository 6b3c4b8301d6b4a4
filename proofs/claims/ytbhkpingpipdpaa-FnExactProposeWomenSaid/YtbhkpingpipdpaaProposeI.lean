/- Men propose: the program's walk. -/
import Derived.Test.YtbhkpingpipdpaaPropose0
import Derived.Test.YtbhkpingpipdpaaPropose1
import Derived.Deep.DeepCutAuto
namespace Go.Proofs.Ytbhkpingpipdpaa
set_option linter.unusedVariables false
open Go.RowKit
set_option maxHeartbeats 8000000 in
theorem implProposeMen (A : Option Addr) (n c : Nat) (xss : List (List Int)) (B : Option Addr) (m d : Nat) (yss : List (List Int)) (w : World) (h : RowsAt w A n xss) (hn : n ≤ 1048576) (hx : ∀ xs ∈ xss, xs.length ≤ 1048576)
    (g : RowsAt w B m yss) (hm : m ≤ 1048576) (hy : ∀ xs ∈ yss, xs.length ≤ 1048576) :
    Calls Try.prog 24 #[.agg #[.slice A n c, .slice B m d]] w fun e w' => ∃ A' c', e = .returned (.tuple #[.slice A' (propList xss yss).length c', .int .i64 (propCnt xss yss)]) ∧ OwnI w' w.heap.size w'.heap.size (.slice A' (propList xss yss).length c') (propList xss yss) ∧ (propList xss yss).length ≤ 1048576 ∧ Below w.heap.size w w' := by
  obtain rfl := h.len
  obtain rfl := g.len
  have HX := Lib.hid hx
  have HY := Lib.hid hy
  clear hx hy
  have hK := MktAt.new (c := c) (d := d) h g 26
  have hall := pair_below w (.slice A xss.length c) (.slice B yss.length d) 26
  have hs := World.size_alloc w (.cells #[.slice A xss.length c, .slice B yss.length d] 26)
  have hpl := propList_len (xss := xss) (yss := yss)
  cases h1 : marketOk xss yss
  · have E : Hid (propList xss yss = [] ∧ propCnt xss yss = 0) := by
      unfold propList propCnt
      rw [propose_no h1]
      exact ⟨rfl, rfl⟩
    go_enter Try.func24, Try.ntmps24
    go_wp2_with fail
    generalize w.alloc (.cells #[.slice A xss.length c, .slice B yss.length d] 26) = w0 at *
    (with_reducible refine (implMarketOk _ _ _ _ _ _ _ _ _ hK.men hn HX.out hK.women hm HY.out).mono ?_)
    rintro e w1 ⟨rfl, hb⟩
    rw [h1]
    have hb1 := hall.trans (hb.mono hall.size)
    clear h1 hb
    go_wp2
    go_ret2
    rw [E.out.1, E.out.2]
    exact ⟨none, 0, rfl, OwnI.nil _ _ _, by simp, hb1⟩
  have HP := Lib.hid (propose_yes h1)
  have F := market_facts h1
  have l1 := F.lo
  have l5 := F.hi
  have x0 := hK.c0
  have x1 := hK.c1
  go_enter Try.func24, Try.ntmps24
  go_wp2_with fail
  generalize w.alloc (.cells #[.slice A xss.length c, .slice B yss.length d] 26) = w0 at *
  (with_reducible refine (implMarketOk _ _ _ _ _ _ _ _ _ hK.men hn HX.out hK.women hm HY.out).mono ?_)
  rintro e w1 ⟨rfl, hb⟩
  rw [h1]
  have hK := hK.below hb
  have x0 := hK.c0
  have x1 := hK.c1
  clear h1
  have HS := St.start w1
  go_upto_region 4 with fail
  go_cut [5, 6, 7] from 17 to 25 (fun v5 v6 v7 wx => ∃ g1 g2 g3 L, v5 = .slice (some ⟨g1, 0, none⟩) xss.length xss.length ∧ v6 = .slice (some ⟨g2, 0, none⟩) xss.length xss.length ∧ v7 = .slice (some ⟨g3, 0, none⟩) xss.length xss.length ∧
    St w1 wx L ∧ (g1, List.replicate xss.length (-1)) ∈ L ∧ (g2, List.replicate xss.length (-1)) ∈ L ∧ (g3, List.replicate xss.length 0) ∈ L ∧ g1 ≠ g2 ∧ g1 ≠ g3 ∧ g2 ≠ g3)
  case first =>
    go_region_with (first
      | (go_at_call 43; (first | (with_reducible refine (repeat_St (x := -1) _ HS ?_ l1 ?_).mono ?_) | (with_reducible refine (repeat_St (x := -1) _ HS.drew ?_ l1 ?_).mono ?_) | (with_reducible refine (repeat_St (x := -1) _ (HS.lit (-1)) ?_ l1 ?_).mono ?_) | (with_reducible refine (repeat_St (x := -1) _ (HS.lit (-1)).drew ?_ l1 ?_).mono ?_) | (with_reducible refine (repeat_St (x := -1) _ ((HS.lit (-1)).lit (-1)) ?_ l1 ?_).mono ?_) | (with_reducible refine (repeat_St (x := -1) _ ((HS.lit (-1)).lit (-1)).drew ?_ l1 ?_).mono ?_)); (· simp); (· omega); rintro e w2 ⟨rfl, HS, hz⟩; (try simp at hz))
      | ((first | (refine upon_make_St _ HS ?_ ?_) | (refine upon_make_St _ HS.drew ?_ ?_) | (refine upon_make_St _ (HS.lit (-1)) ?_ ?_) | (refine upon_make_St _ (HS.lit (-1)).drew ?_ ?_) | (refine upon_make_St _ ((HS.lit (-1)).lit (-1)) ?_ ?_) | (refine upon_make_St _ ((HS.lit (-1)).lit (-1)).drew ?_ ?_)); (· omega); rintro w2 HS hz; (try simp at hz)))
    all_goals
      go_wp2_with fail
      go_meet
      case rel => exact ⟨_, _, _, _, rfl, rfl, rfl, HS, by simp, by simp, by simp, by omega, by omega, by omega⟩
  case rest =>
    obtain ⟨g1, g2, g3, L, rfl, rfl, rfl, HS, m1, m2, m3, n12, n13, n23⟩ := hcut
    have M0 : PMm w1 xss.length g1 g2 g3 (psInit xss.length).wo (psInit xss.length).ma (psInit xss.length).ak wc := ⟨HS.get m1 (by simp [psInit]), HS.get m2 (by simp [psInit]), HS.get m3 (by simp [psInit]), HS.bel⟩
    have hb1 := hall.trans (hb.mono hall.size)
    have P : PBase w A c xss B d yss w1 g1 g2 g3 := ⟨hK, hb1, (HS.at_ m1).1, (HS.at_ m2).1, (HS.at_ m3).1, n12, n13, n23⟩
    have HPP := Lib.hid P
    have G0 := good_init xss
    have hsq : xss.length * xss.length ≤ 25 := Nat.mul_le_mul l5 l5
    obtain ⟨R, hR⟩ : ∃ R, R = psRun xss yss (xss.length * xss.length) (psInit xss.length) := ⟨_, rfl⟩
    have HR := Lib.hid hR
    have HPL : Hid (propList xss yss = R.wo ∧ propCnt xss yss = (R.cnt : Int)) := by
      constructor
      · unfold propList; rw [HP.out, ← hR]
      · unfold propCnt; rw [HP.out, ← hR]
    have n21 := n12.symm
    have n31 := n13.symm
    have n32 := n23.symm
    have oi := M0.o1.at_
    clear HS m1 m2 m3 hR hall hs hb1 hb hK x0 x1 P
    go_wp2_with fail
    (with_reducible refine (index_any _ _ _ _ _ _ oi (by omega)).mono ?_)
    rintro e w3 ⟨rfl, rfl⟩
    clear oi
    obtain ⟨s0, hs0⟩ : ∃ s0, s0 = psInit xss.length := ⟨_, rfl⟩
    have e0 : s0.cnt = 0 := by rw [hs0]; rfl
    have HE0 := Lib.hid e0
    rw [← hs0] at M0 HR G0
    have HS0 := Lib.hid hs0
    rw [← hs0]
    clear e0 hs0
    go_wp2
    go_loopw [8, 9, 10] (fun v8 v9 _ wr => ∃ (s : PSt) (f : Nat), f + s.cnt = xss.length * xss.length ∧ R = psRun xss yss f s ∧ PGood xss s ∧ v8 = .int .i64 (s.cnt : Int) ∧ v9 = .int .i64 (place s.wo (-1)) ∧ PMm w1 xss.length g1 g2 g3 s.wo s.ma s.ak wr) (fun v8 _ _ _ => xss.length * xss.length - (intOf v8).toNat)
    case atStart => exact ⟨s0, xss.length * xss.length, by rw [HE0.out]; rfl, HR.out, G0, by rw [HE0.out]; rfl, rfl, M0⟩
    case round =>
      obtain ⟨s, f, hf, hR, G, rfl, rfl, M⟩ := hrel
      have HRR := Lib.hid hR
      clear hR M0 G0 HR
      by_cases hneg : place s.wo (-1) < 0
      · have HF : Hid (propList xss yss = s.wo ∧ propCnt xss yss = (s.cnt : Int)) := by
          have := psRun_end (xss := xss) (yss := yss) f hneg
          rw [← HRR.out] at this
          rw [← this]
          exact HPL.out
        have hl := M.o1.num.1
        have HLL : Hid (s.wo.length = xss.length) := hl
        have hbe := HPP.out.bel M
        have hg1 := HPP.out.l1
        have hgb := HPP.out.b.size
        have ho := M.o1.num
        clear hl
        go_wp2
        go_ret2
        rw [HF.out.1, HF.out.2, HLL.out]
        exact ⟨some ⟨g1, 0, none⟩, xss.length, rfl, M.o1.mono (by omega) (by omega), by omega, hbe⟩
      · obtain ⟨i, hi⟩ : ∃ i : Nat, place s.wo (-1) = (i : Int) := ⟨(place s.wo (-1)).toNat, by omega⟩
        clear hneg
        rw [hi]
        obtain ⟨j, v, hil, hw, hj, hjl, hv, hvl, hcnt, G', hcase⟩ := ps_facts F G hi
        have HST := Lib.hid (psRun_step (xss := xss) (yss := yss) (f := f - 1) hi)
        have hff : f - 1 + 1 = f := by omega
        rw [hff, ← HRR.out] at HST
        have hc25 : s.cnt < 25 := by omega
        have K := HPP.out.mkt M
        have x0 := K.c0
        obtain ⟨b, o, A', c', eA, _, hck, hcc, hin⟩ := K.men.at_ hil
        cases eA
        have hrl := rank_len (F.mr i hil)
        obtain ⟨b2, o2, eA', _, hcr⟩ := hin.at_ (show j < (rx xss i).length by omega)
        cases eA'
        have hcv := hcr j (by omega)
        rw [hv] at hcv
        have c3 := M.o3.cellAt i hil
        rw [hj] at c3
        have i1 : (0 : Int) ≤ (i : Int) := by omega
        have i2 : (i : Int) < (xss.length : Int) := by omega
        have j1 : (0 : Int) ≤ (j : Int) := by omega
        have j2 : (j : Int) < ((rx xss i).length : Int) := by omega
        have HJ := Lib.hid hj
        have HW := Lib.hid hw
        have HI := Lib.hid hi
        clear hrl hcr hv hj hw hi hff K G
        go_wp2
        go_quiet (fail)
        have M2 := M.drewN nq
        generalize wr.drewN nq = w2 at *
        clear M x0 hck hcv hin hcc c3
        have c3 := M2.o3.cellAt i hil
        rw [HJ.out] at c3
        have f3 := M2.o3.frozenAt i
        rcases hcase with ⟨hm, hst⟩ | ⟨p, hm, hpl, ⟨hp1, hp2, hst⟩ | ⟨hp1, hp2, hst⟩⟩
        · have c2 := M2.o2.cellAt v hvl
          rw [hm] at c2
          have f2 := M2.o2.frozenAt v
          have c1 := M2.o1.cellAt i hil
          rw [HW.out] at c1
          have f1 := M2.o1.frozenAt i
          have HCN : Hid ((psStep xss yss s).cnt = s.cnt + 1) := by show _ = _; rw [hst]
          have HWO : Hid ((psStep xss yss s).wo = s.wo.set i (v : Int)) := by show _ = _; rw [hst]
          have M5 := HPP.out.st2 (HPP.out.st1 (HPP.out.st3 M2 i ((j : Int) + 1)) i (v : Int)) v (i : Int)
          have oi := M5.o1.at_
          have M6 := M5
          have HS3 := Lib.hid hst
          clear hst M2 M5 hm
          go_wp2_with fail
          (with_reducible refine (index_any _ _ _ _ _ _ oi (by omega)).mono ?_)
          rintro e w9 ⟨rfl, rfl⟩
          clear oi
          go_wp2
          go_roundw
          case rel => first | exact ⟨psStep xss yss s, f - 1, by rw [HCN.out]; omega, HST.out, G', by rw [HCN.out]; go_num, by rw [HWO.out], by rw [HS3.out]; exact M6⟩ | ((repeat apply Exists.intro); exact ⟨⟨psStep xss yss s, f - 1, by rw [HCN.out]; omega, HST.out, G', by rw [HCN.out]; go_num, by rw [HWO.out], by rw [HS3.out]; exact M6⟩, rfl⟩)
          case measure => simp [intOf]; omega
        · have c2 := M2.o2.cellAt v hvl
          rw [hm] at c2
          have HCN : Hid ((psStep xss yss s).cnt = s.cnt + 1) := by show _ = _; rw [hst]
          have HWO : Hid ((psStep xss yss s).wo = s.wo) := by show _ = _; rw [hst]
          have M3 := HPP.out.st3 M2 i ((j : Int) + 1)
          go_wp2_with fail
          generalize w2.setCell ⟨g3, i, none⟩ (.int .i64 ((j : Int) + 1)) = w3 at *
          clear c2 c3 f3 M2
          have K3 := HPP.out.mkt M3
          have y1 := K3.c1
          obtain ⟨bb, oo, B', d', eB, _, hckw, hccw, hinw⟩ := K3.women.at_ (show v < yss.length by have := F.wl; omega)
          cases eB
          have c2 := M3.o2.cellAt v hvl
          rw [hm] at c2
          have v1 : (0 : Int) ≤ (v : Int) := by omega
          have v2 : (v : Int) < (yss.length : Int) := by have := F.wl; omega
          have v3 : (v : Int) < (xss.length : Int) := by omega
          have rlw : (rx yss v).length ≤ 1099511627776 := by have := rank_len (F.wr v hvl); omega
          have K1 := Lib.hid (fun n => Calls.quiet_of_same (n := n) ((implPrefers _ _ d' _ (p : Int) (i : Int) _ (hinw.drewN n) rlw).mono fun _ _ ⟨he, hw⟩ => ⟨he, hw.symm⟩))
          rw [hp1] at K1
          clear K3
          go_quiet ((with_reducible exact K1.out _))
          have M4 := M3.drewN nq
          generalize w3.drewN nq = w4 at *
          clear M3 y1 hckw hccw hinw c2 K1 hp1 hp2
          have oi := M4.o1.at_
          have M6 := M4
          have HS3 := Lib.hid hst
          clear hst M4 hm
          go_wp2_with fail
          (with_reducible refine (index_any _ _ _ _ _ _ oi (by omega)).mono ?_)
          rintro e w9 ⟨rfl, rfl⟩
          clear oi
          go_wp2
          go_roundw
          case rel => first | exact ⟨psStep xss yss s, f - 1, by rw [HCN.out]; omega, HST.out, G', by rw [HCN.out]; go_num, by rw [HWO.out], by rw [HS3.out]; exact M6⟩ | ((repeat apply Exists.intro); exact ⟨⟨psStep xss yss s, f - 1, by rw [HCN.out]; omega, HST.out, G', by rw [HCN.out]; go_num, by rw [HWO.out], by rw [HS3.out]; exact M6⟩, rfl⟩)
          case measure => simp [intOf]; omega
        · have c2 := M2.o2.cellAt v hvl
          rw [hm] at c2
          have HCN : Hid ((psStep xss yss s).cnt = s.cnt + 1) := by show _ = _; rw [hst]
          have HWO : Hid ((psStep xss yss s).wo = (s.wo.set p (-1)).set i (v : Int)) := by show _ = _; rw [hst]
          have M3 := HPP.out.st3 M2 i ((j : Int) + 1)
          go_wp2_with fail
          generalize w2.setCell ⟨g3, i, none⟩ (.int .i64 ((j : Int) + 1)) = w3 at *
          clear c2 c3 f3 M2
          have K3 := HPP.out.mkt M3
          have y1 := K3.c1
          obtain ⟨bb, oo, B', d', eB, _, hckw, hccw, hinw⟩ := K3.women.at_ (show v < yss.length by have := F.wl; omega)
          cases eB
          have c2 := M3.o2.cellAt v hvl
          rw [hm] at c2
          have v1 : (0 : Int) ≤ (v : Int) := by omega
          have v2 : (v : Int) < (yss.length : Int) := by have := F.wl; omega
          have v3 : (v : Int) < (xss.length : Int) := by omega
          have rlw : (rx yss v).length ≤ 1099511627776 := by have := rank_len (F.wr v hvl); omega
          have K1 := Lib.hid (fun n => Calls.quiet_of_same (n := n) ((implPrefers _ _ d' _ (p : Int) (i : Int) _ (hinw.drewN n) rlw).mono fun _ _ ⟨he, hw⟩ => ⟨he, hw.symm⟩))
          rw [hp1] at K1
          clear K3
          go_quiet ((with_reducible exact K1.out _))
          have M4 := M3.drewN nq
          generalize w3.drewN nq = w4 at *
          clear M3 y1 hckw hccw hinw c2 K1 hp1 hp2
          have c2 := M4.o2.cellAt v hvl
          rw [hm] at c2
          have cp := M4.o1.cellAt p hpl
          have fp := M4.o1.frozenAt p
          have p1 : (0 : Int) ≤ (p : Int) := by omega
          have p2 : (p : Int) < (xss.length : Int) := by omega
          have M5 := HPP.out.st1 M4 p (-1)
          go_upto_region 15 with fail
          generalize w4.setCell ⟨g1, p, none⟩ (.int .i64 (-1)) = w5 at *
          clear c2 cp fp M4
          have c2 := M5.o2.cellAt v hvl
          have f2 := M5.o2.frozenAt v
          have c1 := M5.o1.cellAt i hil
          have f1 := M5.o1.frozenAt i
          have M5 := HPP.out.st2 (HPP.out.st1 M5 i (v : Int)) v (i : Int)
          have oi := M5.o1.at_
          have M6 := M5
          have HS3 := Lib.hid hst
          clear hst M5 hm
          go_wp2_with fail
          (with_reducible refine (index_any _ _ _ _ _ _ oi (by omega)).mono ?_)
          rintro e w9 ⟨rfl, rfl⟩
          clear oi
          go_wp2
          go_roundw
          case rel => first | exact ⟨psStep xss yss s, f - 1, by rw [HCN.out]; omega, HST.out, G', by rw [HCN.out]; go_num, by rw [HWO.out], by rw [HS3.out]; exact M6⟩ | ((repeat apply Exists.intro); exact ⟨⟨psStep xss yss s, f - 1, by rw [HCN.out]; omega, HST.out, G', by rw [HCN.out]; go_num, by rw [HWO.out], by rw [HS3.out]; exact M6⟩, rfl⟩)
          case measure => simp [intOf]; omega
end Go.Proofs.Ytbhkpingpipdpaa
