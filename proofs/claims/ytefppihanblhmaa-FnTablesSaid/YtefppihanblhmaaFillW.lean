/- The program's search for roundings: each call of yield is told what lies in the result. -/
import Derived.Test.YtefppihanblhmaaFillZ
import Derived.OwnWalkIn
import Derived.TacticsInMore
namespace Go.Proofs.Ytefppihanblhmaa
set_option linter.unusedVariables false
open Go.RowKit

set_option maxRecDepth 100000 in
set_option maxHeartbeats 4000000 in
theorem fill_any {t : List (List Int)} {w0 : World} {b : FillB} (C : FillC t w0 b) (B0 N : Nat) (hB : B0 ≤ b.lo) (J Jx : List (Value × List Int) → World → Prop)
    (hJ : ∀ pre A B, J pre A → Below B0 A B → J pre B) (hJx : ∀ pre A B, Jx pre A → Below A.heap.size A B → Jx pre B)
    (hY : ∀ (m : Nat) pre x W1, J pre W1 → toldF b.c b.r x W1 → pre.length < N → YieldAt Fence.wide m Try.prog b.l #[x.1] W1 fun e W' =>
      (e = .returned (.bool true) ∧ J (pre ++ [x]) W' ∧ W1.grownBy W' (some b.k0)) ∨ (e = .returned (.bool false) ∧ Jx (pre ++ [x]) W')) :
    ∀ (f p : Nat) (M : List Int) (pre : List (Value × List Int)) (W : World), p + f = b.r * b.c → FillAt t w0 b W M → B0 ≤ W.heap.size → J pre W → pre.length + (goF t b.c b.r f (M.take p)).length ≤ N →
      Calls Try.prog 31 #[.int .i64 (p : Int), .pointer (some ⟨b.bw, 0, none⟩), .pointer (some ⟨b.bt, 0, none⟩), .pointer (some ⟨b.br, 0, none⟩), .pointer (some ⟨b.bY, 0, none⟩), .pointer (some ⟨b.bf, 0, none⟩)] W
        (fillPost t w0 b J Jx W p (M.take p) pre (goF t b.c b.r f (M.take p))) := by
  intro f
  induction f with
  | zero =>
    intro p M pre W hp S hBW hj hN
    exact fill_zero C B0 N hB J Jx hJ hJx hY p M pre W (by omega) S hBW hj hN
  | succ f ih =>
    intro p M pre W hp S hBW hj hN
    have T := Lib.hid C.tab
    have c1 := C.tab.c1
    have c4 := C.tab.c4
    have r4 := C.tab.r4
    obtain ⟨i, hi⟩ : ∃ i, p / b.c = i := ⟨_, rfl⟩
    obtain ⟨k, hk⟩ : ∃ k, p % b.c = k := ⟨_, rfl⟩
    have hpb : p < b.r * b.c := by omega
    have hat := C.tab.at_ hpb
    rw [hi, hk] at hat
    obtain ⟨hir, hkc, x0, x1⟩ := hat
    have hpe : p = i * b.c + k := by rw [← hi, ← hk, Nat.mul_comm]; exact (Nat.div_add_mod p b.c).symm
    have q1 : (p : Int) / (b.c : Int) = (i : Int) := by rw [← hi]; exact (Int.natCast_ediv _ _).symm
    have q2 : (p : Int) % (b.c : Int) = (k : Int) := by rw [← hk]; exact (Int.natCast_emod _ _).symm
    have q3 : (p : Int).tdiv (b.c : Int) = (i : Int) := by rw [Int.tdiv_eq_ediv_of_nonneg (by omega)]; exact q1
    have q4 : (p : Int).tmod (b.c : Int) = (k : Int) := by rw [Int.tmod_eq_emod_of_nonneg (by omega)]; exact q2
    have HI := Lib.hid hi
    have HK := Lib.hid hk
    have HPE := Lib.hid hpe
    have hp16 : p ≤ 16 := by have : b.r * b.c ≤ 4 * 4 := Nat.mul_le_mul r4 c4; omega
    clear hi hk hpe
    have z0 : ((b.c : Int) == 0) = false := by rw [beq_eq_false_iff_ne]; omega
    have cw := S.cw
    have ct := S.ct
    have cr := S.cr
    go_enter Try.func31, Try.ntmps31
    go_wp2
    go_quiet (fail)
    go_wp2
    have S1 := S.later (below_of_drewN (w' := W.drewN nq) rfl)
    have hj1 := hJ _ _ _ hj (below_of_drewN (B := B0) (w' := W.drewN nq) rfl)
    have hk1 : KeepF b.k0 b.lo b.hi W (W.drewN nq) := KeepF.of_below (below_of_drewN rfl)
    clear S hj cw ct cr
    have hBW1 : B0 ≤ (W.drewN nq).heap.size := Nat.le_trans hBW hk1.size
    generalize W.drewN nq = W1 at *
    have ct := S1.ct
    have cr := S1.cr
    have hcut := cut_at (t := t) (M := M) c1 HI.out HK.out (by rw [S1.ml]; omega)
    have HG : Hid (cutF t b.c (M.take p) = true → goF t b.c b.r (f + 1) (M.take p) = []) := fun h => by show _ = _; unfold goF; rw [if_pos h]
    have HGN : Hid (cutF t b.c (M.take p) = false → goF t b.c b.r (f + 1) (M.take p) = goF t b.c b.r f (M.take p ++ [lowOf (atF t b.c p)]) ++ (if atF t b.c p % 10 = 0 then [] else goF t b.c b.r f (M.take p ++ [lowOf (atF t b.c p) + 10]))) := fun h => by
      have hpl : (M.take p).length = p := by rw [List.length_take, S1.ml]; omega
      show _ = _
      conv => lhs; unfold goF
      rw [if_neg (by rw [h]; simp), hpl]
    have hkpos : ¬ k = 0 ∨ (k = 0 ∧ i = 0) ∨ (k = 0 ∧ 0 < i) := by omega
    have hi2 : i < b.r := hir
    rcases hkpos with hk0 | ⟨hk0, hi0⟩ | ⟨hk0, hi1⟩
    case' inl =>
      have t0 : ((k : Int) == 0) = false := by rw [beq_eq_false_iff_ne]; omega
      rw [decide_eq_false hk0] at hcut
      have HNC := Lib.hid (HGN.out hcut)
      clear hcut
      have t1 : (k == 0) = false := by rw [beq_eq_false_iff_ne]; exact hk0
      go_quiet (fail)
      have S2 := S1.later (below_of_drewN (w' := W1.drewN nq) rfl)
      have hj2 := hJ _ _ _ hj1 (below_of_drewN (B := B0) (w' := W1.drewN nq) rfl)
      have hk2 := hk1.trans (KeepF.of_below (k0 := b.k0) (lo := b.lo) (hi := b.hi) (below_of_drewN (w' := W1.drewN nq) rfl))
      have hBW2 : B0 ≤ (W1.drewN nq).heap.size := Nat.le_trans hBW hk2.size
      clear S1 hj1 hk1 hBW1 HG HGN t0 t1 hk0
      (try clear hi0 hi00)
      (try clear t2)
      generalize W1.drewN nq = W2 at *
      have ct := S2.ct
      have cr := S2.cr
    case' inr.inl =>
      have t0 : ((k : Int) == 0) = true := by rw [beq_iff_eq]; omega
      have t1 : (k == 0) = true := by rw [beq_iff_eq]; exact hk0
      have t2 : decide ((0 : Int) < (i : Int)) = false := decide_eq_false (by omega)
      rw [decide_eq_false (show ¬ 0 < i by omega)] at hcut
      simp only [Bool.and_false, Bool.false_and] at hcut
      have HNC := Lib.hid (HGN.out hcut)
      have hi00 : ¬ 0 < i := by omega
      clear hcut
      go_quiet (fail)
      have S2 := S1.later (below_of_drewN (w' := W1.drewN nq) rfl)
      have hj2 := hJ _ _ _ hj1 (below_of_drewN (B := B0) (w' := W1.drewN nq) rfl)
      have hk2 := hk1.trans (KeepF.of_below (k0 := b.k0) (lo := b.lo) (hi := b.hi) (below_of_drewN (w' := W1.drewN nq) rfl))
      have hBW2 : B0 ≤ (W1.drewN nq).heap.size := Nat.le_trans hBW hk2.size
      clear S1 hj1 hk1 hBW1 HG HGN t0 t1 hk0
      (try clear hi0 hi00)
      (try clear t2)
      generalize W1.drewN nq = W2 at *
      have ct := S2.ct
      have cr := S2.cr
    case' inr.inr =>
      have t0 : ((k : Int) == 0) = true := by rw [beq_iff_eq]; omega
      have t1 : (k == 0) = true := by rw [beq_iff_eq]; exact hk0
      have t2 : decide ((0 : Int) < (i : Int)) = true := decide_eq_true (by omega)
      obtain ⟨j, hij⟩ : ∃ j, i = j + 1 := ⟨i - 1, by omega⟩
      obtain ⟨b1, o1, At, d1, eA, _, hckt, hcct, hint⟩ := (C.rows.below S1.below).at_ (show j < b.r by omega)
      obtain ⟨b2, o2, Ar, d2, eR, _, hckr, hccr, hinr⟩ := S1.own.at_.at_ (show j < b.r by omega)
      cases eR
      rw [Nat.zero_add] at hckr
      rw [rx_rowsF (show j < b.r by omega)] at hckr hinr hccr
      rw [eA] at ct
      have lt_ := (T.out.row j (by omega)).1
      have lr_ : (rowF b.c M j).length = b.c := rowF_len S1.ml (by omega)
      rw [lt_] at hckt hint hcct
      rw [lr_] at hckr hinr hccr
      have bdt : ∀ x ∈ rx t j, 0 ≤ x ∧ x ≤ 1000000000 := fun x hx => by
        obtain ⟨q, hq, rfl⟩ := List.getElem_of_mem hx
        have := (T.out.row j (by omega)).2 q (by omega)
        rw [ix_lt hq] at this
        omega
      have bdr : ∀ x ∈ rowF b.c M j, 0 ≤ x ∧ x ≤ 1000000000 := fun x hx => by
        have := S1.mb x (List.mem_of_mem_drop (List.mem_of_mem_take hx))
        omega
      have K1 := Lib.hid (fun n => Calls.quiet_of_same (n := n) ((sumOf_any At b.c d1 (rx t j) _ (hint.drewN n) (by omega) bdt).mono fun _ _ ⟨he, hw⟩ => ⟨he, hw.symm⟩))
      have K2 := Lib.hid (fun n => Calls.quiet_of_same (n := n) ((sumOf_any Ar b.c d2 (rowF b.c M j) _ (hinr.drewN n) (by omega) bdr).mono fun _ _ ⟨he, hw⟩ => ⟨he, hw.symm⟩))
      have K3 := Lib.hid (fun n => Calls.quiet_of_same (n := n) ((implIsRoundedTo (lsum (rx t j)) (lsum (rowF b.c M j)) (W1.drewN n)).mono fun _ _ ⟨he, hw⟩ => ⟨he, hw.symm⟩))
      rw [decide_eq_true hk0, decide_eq_true hi1, hij, Nat.add_sub_cancel] at hcut
      obtain ⟨rb, hrb⟩ : ∃ rb, isRnd (lsum (rx t j)) (lsum (rowF b.c M j)) = rb := ⟨_, rfl⟩
      rw [hrb] at hcut K3
      generalize lsum (rx t j) = sa at *
      generalize lsum (rowF b.c M j) = sb at *
      have j1 : (j : Int) < (b.r : Int) := by omega
      have j2 : IntKind.i64.wrap ((i : Int) - 1) = (j : Int) := by rw [IntWalk.i64_in _ (by omega)]; omega
      have j3 : (i : Int) - 1 = (j : Int) := by omega
      have HIJ := Lib.hid hij
      clear hint hinr hcct hccr bdt bdr hrb hij lt_ lr_
      cases rb
      case false =>
        have hc := Lib.hid (HG.out (by simpa using hcut))
        clear hcut
        go_quiet ((first | (with_reducible exact K1.out _) | (with_reducible exact K2.out _) | (with_reducible exact K3.out _)))
        have S2 := S1.later (below_of_drewN (w' := W1.drewN nq) rfl)
        have hj2 := hJ _ _ _ hj1 (below_of_drewN (B := B0) (w' := W1.drewN nq) rfl)
        have hk2 := hk1.trans (KeepF.of_below (k0 := b.k0) (lo := b.lo) (hi := b.hi) (below_of_drewN (w' := W1.drewN nq) rfl))
        go_wp2
        go_ret
        exact .inl ⟨rfl, ⟨M, S2, rfl⟩, hk2, by rw [hc.out]; simpa [encF] using hj2⟩
      case' true =>
        have HNC := Lib.hid (HGN.out (by simpa using hcut))
        clear hcut
        go_quiet ((first | (with_reducible exact K1.out _) | (with_reducible exact K2.out _) | (with_reducible exact K3.out _)))
        clear ct cr hckt hckr K1 K2 K3
        have S2 := S1.later (below_of_drewN (w' := W1.drewN nq) rfl)
        have hj2 := hJ _ _ _ hj1 (below_of_drewN (B := B0) (w' := W1.drewN nq) rfl)
        have hk2 := hk1.trans (KeepF.of_below (k0 := b.k0) (lo := b.lo) (hi := b.hi) (below_of_drewN (w' := W1.drewN nq) rfl))
        have hBW2 : B0 ≤ (W1.drewN nq).heap.size := Nat.le_trans hBW hk2.size
        clear S1 hj1 hk1 hBW1 HG HGN t0 t1 hk0
        (try clear hi0 hi00)
        (try clear t2)
        generalize W1.drewN nq = W2 at *
        have ct := S2.ct
        have cr := S2.cr
    all_goals
      have t8 : ((i : Int) == (b.r : Int)) = false := by rw [beq_eq_false_iff_ne]; omega
      obtain ⟨b3, o3, At3, d3, eA3, _, hckt3, _, hint3⟩ := (C.rows.below S2.below).at_ hi2
      rw [eA3] at ct
      go_wp2
      have lt3 := (T.out.row i hi2).1
      rw [lt3] at hckt3 hint3
      obtain ⟨b4, o4, rfl, _, hc4⟩ := hint3.at_ hkc
      have cx := hc4 k hkc
      have hx : ix (rx t i) k = atF t b.c p := by unfold atF; rw [HI.out, HK.out]
      rw [hx] at cx
      obtain ⟨x, hxx⟩ : ∃ x, atF t b.c p = x := ⟨_, rfl⟩
      rw [hxx] at cx x0 x1 HNC
      have HXX := Lib.hid hxx
      obtain ⟨lw, hlw⟩ : ∃ lw, lowOf x = lw := ⟨_, rfl⟩
      have hlw1 : x - x % 10 = lw := hlw
      have e5 : x.tmod 10 = x % 10 := Int.tmod_eq_emod_of_nonneg x0
      have rl := rnd_low x0 x1
      have rh := rnd_high x0 x1
      have lb : 0 ≤ lw ∧ lw ≤ 1000 := by rw [← hlw1]; omega
      rw [hlw] at HNC rl rh
      have hi3 : (i : Int) < (b.r : Int) := by omega
      have hk3 : (k : Int) < (b.c : Int) := by omega
      have m1 : 0 ≤ x % 10 := by omega
      have m2 : x % 10 < 10 := by omega
      have HLW := Lib.hid hlw1
      clear hx hxx hlw hlw1 hc4 hint3 lt3
      go_quiet (fail)
      rw [HLW.out]
      have S3 := S2.later (below_of_drewN (w' := W2.drewN nq) rfl)
      have hj3 := hJ _ _ _ hj2 (below_of_drewN (B := B0) (w' := W2.drewN nq) rfl)
      have hk4 := hk2.trans (KeepF.of_below (k0 := b.k0) (lo := b.lo) (hi := b.hi) (below_of_drewN (w' := W2.drewN nq) rfl))
      have hBW3 : B0 ≤ (W2.drewN nq).heap.size := Nat.le_trans hBW hk4.size
      clear S2 hj2 hk2 hBW2 ct cr cx hckt3
      generalize W2.drewN nq = W3 at *
      have ha := (Below.refl W3.heap.size W3).alloc (Nat.le_refl _) (.cells #[.int .i64 lw, .int .i64 (lw + 10)] 3)
      obtain ⟨g0, g1⟩ := new_pair W3 (.int .i64 lw) (.int .i64 (lw + 10)) 3 rfl
      have S4 := S3.later ha
      have hj4 := hJ _ _ _ hj3 (ha.mono hBW3)
      have hk5 := hk4.trans (KeepF.of_below (k0 := b.k0) (lo := b.lo) (hi := b.hi) ha)
      have hgW := S3.hw
      have hz4 : W3.heap.size < (W3.alloc (.cells #[.int .i64 lw, .int .i64 (lw + 10)] 3)).heap.size := by simp
      go_wp2
      clear S3 hj3 hk4 ha
      generalize W3.alloc (.cells #[.int .i64 lw, .int .i64 (lw + 10)] 3) = W4 at *
      obtain ⟨gy, hgy⟩ : ∃ gy, W3.heap.size = gy := ⟨_, rfl⟩
      rw [hgy] at g0 g1 hgW hz4 ⊢
      have hBg : B0 ≤ gy := by omega
      clear hgy hBW3
      obtain ⟨P1, hP1⟩ : ∃ P1, goF t b.c b.r f (M.take p ++ [lw]) = P1 := ⟨_, rfl⟩
      obtain ⟨P2, hP2⟩ : ∃ P2, goF t b.c b.r f (M.take p ++ [lw + 10]) = P2 := ⟨_, rfl⟩
      rw [hP1, hP2] at HNC
      replace HNC : Hid (goF t b.c b.r (f + 1) (M.take p) = allF x P1 P2) := HNC
      rw [HNC.out] at hN
      have HN := Lib.hid hN
      have HP1 := Lib.hid hP1
      have HP2 := Lib.hid hP2
      clear hP1 hP2 hN
      go_loopw [7, 12, 75] (fun _ _ j_ wr => ∃ (j : Nat) (M1 : List Int), j ≤ 2 ∧ j_ = .int .i64 j ∧ FillAt t w0 b wr M1 ∧ M1.take p = M.take p ∧ KeepF b.k0 b.lo b.hi W wr ∧ J (pre ++ encF b (partF x P1 P2 j)) wr ∧ B0 ≤ wr.heap.size ∧ gy < wr.heap.size ∧ wr.cell? ⟨gy, 0, none⟩ = some (.int .i64 lw) ∧ wr.cell? ⟨gy, 1, none⟩ = some (.int .i64 (lw + 10))) (fun _ _ j_ _ => 2 - (intOf j_).toNat)
      case atStart => exact ⟨0, M, by omega, rfl, S4, rfl, hk5, by simpa [encF, partF] using hj4, by omega, hz4, g0, g1⟩
      case round =>
        obtain ⟨j, M1, hj2_, rfl, S, hM, hkp, hjj, hBr, hgr, g0, g1⟩ := hrel
        by_cases hj2' : j = 2
        · subst hj2'
          rw [partF_2] at hjj
          have HJ := Lib.hid hjj
          go_wp2
          go_ret
          exact .inl ⟨rfl, ⟨M1, S, hM⟩, hkp, by rw [HNC.out]; exact HJ.out⟩
        · obtain ⟨y, hy⟩ : ∃ y, (if j = 0 then lw else lw + 10) = y := ⟨_, rfl⟩
          have gj : wr.cell? ⟨gy, j, none⟩ = some (.int .i64 y) := by
            rw [← hy]
            by_cases e : j = 0
            · subst e; rw [if_pos rfl]; exact g0
            · have e1 : j = 1 := by omega
              subst e1
              rw [if_neg (by omega)]; exact g1
          have hyb : 0 ≤ y ∧ y ≤ 2000 := by rw [← hy]; split <;> omega
          obtain ⟨PA, hPA⟩ : ∃ PA, partF x P1 P2 j = PA := ⟨_, rfl⟩
          obtain ⟨PB, hPB⟩ : ∃ PB, partF x P1 P2 (j + 1) = PB := ⟨_, rfl⟩
          obtain ⟨PC, hPC⟩ : ∃ PC, goF t b.c b.r f (M.take p ++ [y]) = PC := ⟨_, rfl⟩
          have HT := Lib.hid (fill_parts (x := x) (P1 := P1) (P2 := P2) (PC := PC) (PA := PA) (PB := PB) (lw := lw) (y := y) (show j = 0 ∨ j = 1 by omega) hy hPA hPB (fun h => by rw [← hPC, h, HP1.out]) (fun h => by rw [← hPC, h, HP2.out]) rl rh)
          have HPB := Lib.hid hPB
          have HPC := Lib.hid hPC
          rw [hPA] at hjj
          clear hPA hPB hPC hy
          obtain ⟨f5, b5, d5, hck5, o5⟩ := own_row C S hi2
          have lo5 := o5.block_ge b5 rfl
          have o6 := o5.tightH
          have cv := o6.cellAt k (by omega)
          have fv := o6.frozenAt k
          obtain ⟨o7, n7⟩ := o6.stored k y
          have o8 := S.own.inner i hi2 hck5 n7 o7
          rw [← rowsF_set hi2 hkc (by rw [S.ml, ← HPE.out]; omega), ← HPE.out] at o8
          have k8 : KeepF b.k0 b.lo b.hi wr (wr.setCell ⟨b5, k, none⟩ (.int .i64 y)) := KeepF.of_only n7 lo5.1 lo5.2
          have S8 := S.keep C k8 o8 (by rw [List.length_set]; exact S.ml) (fun z hz => (List.mem_or_eq_of_mem_set hz).elim (S.mb z) (fun e => by rw [e]; exact hyb))
          have hpM : p < M1.length := by rw [S.ml]; omega
          have HM2 : Hid ((M1.set p y).take (p + 1) = M.take p ++ [y]) := by
            show _ = _
            rw [List.take_succ_eq_append_getElem (by rw [List.length_set]; exact hpM), List.take_set_of_le (Nat.le_refl _), List.getElem_set_self, hM]
          have hM3 : (M1.set p y).take p = M.take p := by rw [List.take_set_of_le (Nat.le_refl _)]; exact hM
          have HM3 := Lib.hid hM3
          have cr := S.cr
          have ct := S8.ct
          obtain ⟨b6, o6_, At6, d6, eA6, _, hck6, _, hin6⟩ := (C.rows.below S8.below).at_ hi2
          rw [eA6] at ct
          have lt6 := (T.out.row i hi2).1
          rw [lt6] at hck6 hin6
          obtain ⟨b7, o7_, rfl, _, hc7⟩ := hin6.at_ hkc
          have cx := hc7 k hkc
          have hx : ix (rx t i) k = x := by rw [← HXX.out]; unfold atF; rw [HI.out, HK.out]
          rw [hx] at cx
          have J8 := hJ _ _ _ hjj (n7.toBelow (B := B0) (by omega) hBr)
          have g0' := k8.cell g0 (by have := C.k2; have := C.lh; show gy ≠ b.k0; omega) (by show ¬ (b.lo ≤ gy ∧ gy < b.hi); omega)
          have g1' := k8.cell g1 (by have := C.k2; have := C.lh; show gy ≠ b.k0; omega) (by show ¬ (b.lo ≤ gy ∧ gy < b.hi); omega)
          have hkp8 := hkp.trans k8
          have hz8 := k8.size
          have hjN : (j : Int) < 2 := by omega
          clear hx lt6 hc7 hin6 hM3 o5 o6 o7 o8 n7 k8 hjj hkp S hM
          go_wp2_with fail
          (with_reducible refine (implIsRoundedTo x y _).mono ?_)
          rintro e w9 ⟨rfl, rfl⟩
          clear cr ct cx hck5 hck6 cv fv gj g0 g1
          generalize wr.setCell ⟨b5, k, none⟩ (.int .i64 y) = W8 at *
          cases hrb : isRnd x y
          · have HPF := Lib.hid (HT.out.2 hrb)
            clear hrb
            go_wp2
            go_roundw
            case rel =>
              exact ⟨j + 1, M1.set p y, by omega, by go_num, S8, HM3.out, hkp8, by rw [HPB.out, HPF.out]; exact J8, by omega, by omega, g0', g1'⟩
            case measure => simp [intOf]; omega
          · obtain ⟨hPF, hpre⟩ := HT.out.1 hrb
            have HPF := Lib.hid hPF
            have HPRE := Lib.hid hpre
            have cf := S8.cf
            have hlen : (PA ++ PC).length ≤ (allF x P1 P2).length := by rw [← hPF]; exact hpre.length_le
            rw [List.length_append] at hlen
            have hih := (ih (p + 1) (M1.set p y) (pre ++ encF b PA) W8 (by omega) S8 (by omega) J8 (by rw [HM2.out, HPC.out, List.length_append, encF_len]; have := HN.out; omega))
            rw [show ((p + 1 : Nat) : Int) = (p : Int) + 1 from rfl] at hih
            have HIH := Lib.hid hih
            clear hih
            clear hrb hPF hpre hlen J8
            go_wp2_with fail
            (with_reducible refine HIH.out.mono ?_)
            clear cf
            unfold fillPost
            rw [HM2.out, HPC.out]
            rintro e w10 (⟨rfl, ⟨M3, S9, hM9⟩, hk9, J9⟩ | ⟨rfl, q, hq, hq0, hx9⟩)
            · have hM10 : M3.take p = M.take p := by
                have := congrArg (List.take p) hM9
                rw [List.take_take, Nat.min_eq_left (by omega), List.take_append_of_le_length (by rw [List.length_take]; have := S9.ml; have := S8.ml; rw [List.length_set] at this; have hh := HM3.out; have := congrArg List.length hh; simp at this; omega)] at this
                rw [this, List.take_take, Nat.min_self]
              have hk10 := hkp8.trans hk9
              have g0'' := hk9.cell g0' (by have := C.k2; have := C.lh; show gy ≠ b.k0; omega) (by show ¬ (b.lo ≤ gy ∧ gy < b.hi); omega)
              have g1'' := hk9.cell g1' (by have := C.k2; have := C.lh; show gy ≠ b.k0; omega) (by show ¬ (b.lo ≤ gy ∧ gy < b.hi); omega)
              have hz9 := hk9.size
              have HJ9 : Hid (J (pre ++ encF b PB) w10) := by show J _ _; rw [HPF.out, encF_append, ← List.append_assoc]; exact J9
              clear J9 hM9 hk9
              go_wp2
              go_roundw
              case rel =>
                exact ⟨j + 1, M3, by omega, by go_num, S9, hM10, hk10, by rw [HPB.out]; exact HJ9.out, by omega, by omega, g0'', g1''⟩
              case measure => simp [intOf]; omega
            · have HX9 : Hid (Jx (pre ++ encF b (PA ++ q)) w10) := by show Jx _ _; rw [encF_append, ← List.append_assoc]; exact hx9
              have hpq : PA ++ q <+: allF x P1 P2 := by
                refine List.IsPrefix.trans ?_ HPRE.out
                rw [HPF.out]
                exact (List.prefix_append_right_inj PA).2 hq
              have HPQ := Lib.hid hpq
              have hne : PA ++ q ≠ [] := fun e => hq0 (List.append_eq_nil_iff.1 e).2
              clear hx9 hpq hq
              go_wp2
              go_ret
              exact .inr ⟨rfl, PA ++ q, by rw [HNC.out]; exact HPQ.out, hne, HX9.out⟩
end Go.Proofs.Ytefppihanblhmaa
