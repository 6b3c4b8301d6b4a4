/- The end of the program's search for roundings: the table is full. -/
import Derived.Test.YtefppihanblhmaaFillD
import Derived.OwnWalkIn
import Derived.Deep.DeepCutAuto
import Derived.TacticsInMore
namespace Go.Proofs.Ytefppihanblhmaa
set_option linter.unusedVariables false
open Go.RowKit

set_option maxRecDepth 100000 in
set_option maxHeartbeats 4000000 in
theorem fill_zero {t : List (List Int)} {w0 : World} {b : FillB} (C : FillC t w0 b) (B0 N : Nat) (hB : B0 ≤ b.lo) (J Jx : List (Value × List Int) → World → Prop)
    (hJ : ∀ pre A B, J pre A → Below B0 A B → J pre B) (hJx : ∀ pre A B, Jx pre A → Below A.heap.size A B → Jx pre B)
    (hY : ∀ (m : Nat) pre x W1, J pre W1 → toldF b.c b.r x W1 → pre.length < N → YieldAt Fence.wide m Try.prog b.l #[x.1] W1 fun e W' =>
      (e = .returned (.bool true) ∧ J (pre ++ [x]) W' ∧ W1.grownBy W' (some b.k0)) ∨ (e = .returned (.bool false) ∧ Jx (pre ++ [x]) W')) :
    ∀ (p : Nat) (M : List Int) (pre : List (Value × List Int)) (W : World), p = b.r * b.c → FillAt t w0 b W M → B0 ≤ W.heap.size → J pre W → pre.length + (goF t b.c b.r 0 (M.take p)).length ≤ N →
      Calls Try.prog 31 #[.int .i64 (p : Int), .pointer (some ⟨b.bw, 0, none⟩), .pointer (some ⟨b.bt, 0, none⟩), .pointer (some ⟨b.br, 0, none⟩), .pointer (some ⟨b.bY, 0, none⟩), .pointer (some ⟨b.bf, 0, none⟩)] W
        (fillPost t w0 b J Jx W p (M.take p) pre (goF t b.c b.r 0 (M.take p))) := by
  intro p M pre W hp S hBW hj hN
  have T := Lib.hid C.tab
  have c1 := C.tab.c1
  have c4 := C.tab.c4
  have r4 := C.tab.r4
  have r1 := C.tab.r1
  have hMp : M.take p = M := by rw [List.take_of_length_le]; rw [S.ml]; omega
  obtain ⟨i, hi⟩ : ∃ i, p / b.c = i := ⟨_, rfl⟩
  obtain ⟨k, hk⟩ : ∃ k, p % b.c = k := ⟨_, rfl⟩
  have hir : i = b.r := by rw [← hi, hp]; exact Nat.mul_div_cancel _ c1
  have hk0 : k = 0 := by rw [← hk, hp]; exact Nat.mul_mod_left _ _
  have q1 : (p : Int) / (b.c : Int) = (i : Int) := by rw [← hi]; exact (Int.natCast_ediv _ _).symm
  have q2 : (p : Int) % (b.c : Int) = (k : Int) := by rw [← hk]; exact (Int.natCast_emod _ _).symm
  have q3 : (p : Int).tdiv (b.c : Int) = (i : Int) := by rw [Int.tdiv_eq_ediv_of_nonneg (by omega)]; exact q1
  have q4 : (p : Int).tmod (b.c : Int) = (k : Int) := by rw [Int.tmod_eq_emod_of_nonneg (by omega)]; exact q2
  have hp16 : p ≤ 16 := by have : b.r * b.c ≤ 4 * 4 := Nat.mul_le_mul r4 c4; omega
  have hcut := cut_at (t := t) (M := M) c1 hi hk (by rw [S.ml]; omega)
  have hpl := S.ml
  have HP := Lib.hid hp
  have HIR := Lib.hid hir
  have hMl : Hid (M.length = b.r * b.c) := S.ml
  have t8 : ((i : Int) == (b.r : Int)) = true := by rw [beq_iff_eq]; omega
  have i1 : 0 < i := by omega
  have i4 : i ≤ 4 := by omega
  have t0 : ((k : Int) == 0) = true := by rw [beq_iff_eq]; omega
  have t1 : (k == 0) = true := by rw [beq_iff_eq]; exact hk0
  have t2 : decide ((0 : Int) < (i : Int)) = true := decide_eq_true (by omega)
  obtain ⟨j, hij⟩ : ∃ j, i = j + 1 := ⟨i - 1, by omega⟩
  have hjr : j < b.r := by omega
  rw [decide_eq_true hk0, decide_eq_true i1, hij, Nat.add_sub_cancel] at hcut
  have j1 : (j : Int) < (b.r : Int) := by omega
  have j2 : IntKind.i64.wrap ((i : Int) - 1) = (j : Int) := by rw [IntWalk.i64_in _ (by omega)]; omega
  have j3 : (i : Int) - 1 = (j : Int) := by omega
  clear hi hk hp hpl hir hk0 hij
  have z0 : ((b.c : Int) == 0) = false := by rw [beq_eq_false_iff_ne]; omega
  have cw := S.cw
  have ct := S.ct
  have cr := S.cr
  rw [hMp] at hcut hN ⊢
  have HMP := Lib.hid hMp
  clear hMp
  go_enter Try.func31, Try.ntmps31
  go_wp2
  go_quiet (fail)
  go_wp2
  have S1 := S.later (below_of_drewN (w' := W.drewN nq) rfl)
  have hj1 := hJ _ _ _ hj (below_of_drewN (B := B0) (w' := W.drewN nq) rfl)
  have hk1 : KeepF b.k0 b.lo b.hi W (W.drewN nq) := KeepF.of_below (below_of_drewN rfl)
  clear S hj cw ct cr
  have hBW1 : B0 ≤ (W.drewN nq).heap.size := Nat.le_trans hBW hk1.size
  generalize W.drewN nq = W1 at *
  have ct := S1.ct
  have cr := S1.cr
  obtain ⟨b1, o1, At, d1, eA, _, hckt, hcct, hint⟩ := (C.rows.below S1.below).at_ (show j < b.r by omega)
  obtain ⟨b2, o2, Ar, d2, eR, _, hckr, hccr, hinr⟩ := S1.own.at_.at_ (show j < b.r by omega)
  cases eR
  rw [Nat.zero_add] at hckr
  rw [rx_rowsF (show j < b.r by omega)] at hckr hinr hccr
  rw [eA] at ct
  have lt_ := (T.out.row j (by omega)).1
  have lr_ : (rowF b.c M j).length = b.c := rowF_len S1.ml (by omega)
  rw [lt_] at hckt hint hcct
  rw [lr_] at hckr hinr hccr
  have bdt : ∀ x ∈ rx t j, 0 ≤ x ∧ x ≤ 1000000000 := fun x hx => by
    obtain ⟨q, hq, rfl⟩ := List.getElem_of_mem hx
    have := (T.out.row j (by omega)).2 q (by omega)
    rw [ix_lt hq] at this
    omega
  have bdr : ∀ x ∈ rowF b.c M j, 0 ≤ x ∧ x ≤ 1000000000 := fun x hx => by
    have := S1.mb x (List.mem_of_mem_drop (List.mem_of_mem_take hx))
    omega
  have K1 := Lib.hid (fun n => Calls.quiet_of_same (n := n) ((sumOf_any At b.c d1 (rx t j) _ (hint.drewN n) (by omega) bdt).mono fun _ _ ⟨he, hw⟩ => ⟨he, hw.symm⟩))
  have K2 := Lib.hid (fun n => Calls.quiet_of_same (n := n) ((sumOf_any Ar b.c d2 (rowF b.c M j) _ (hinr.drewN n) (by omega) bdr).mono fun _ _ ⟨he, hw⟩ => ⟨he, hw.symm⟩))
  have K3 := Lib.hid (fun n => Calls.quiet_of_same (n := n) ((implIsRoundedTo (lsum (rx t j)) (lsum (rowF b.c M j)) (W1.drewN n)).mono fun _ _ ⟨he, hw⟩ => ⟨he, hw.symm⟩))
  obtain ⟨rb, hrb⟩ : ∃ rb, isRnd (lsum (rx t j)) (lsum (rowF b.c M j)) = rb := ⟨_, rfl⟩
  rw [hrb] at hcut K3
  generalize lsum (rx t j) = sa at *
  generalize lsum (rowF b.c M j) = sb at *
  clear hint hinr hcct hccr bdt bdr hrb lt_ lr_
  cases rb
  case false =>
    have hc := Lib.hid (show goF t b.c b.r 0 M = [] by
      unfold goF
      rw [cut_full T.out hMl.out (by simpa using hcut), if_neg (by simp)])
    clear hcut
    go_quiet ((first | (with_reducible exact K1.out _) | (with_reducible exact K2.out _) | (with_reducible exact K3.out _)))
    have S2 := S1.later (below_of_drewN (w' := W1.drewN nq) rfl)
    have hj2 := hJ _ _ _ hj1 (below_of_drewN (B := B0) (w' := W1.drewN nq) rfl)
    have hk2 := hk1.trans (KeepF.of_below (k0 := b.k0) (lo := b.lo) (hi := b.hi) (below_of_drewN (w' := W1.drewN nq) rfl))
    go_wp2
    go_ret
    exact .inl ⟨rfl, ⟨M, S2, HMP.out⟩, hk2, by rw [hc.out]; simpa [encF] using hj2⟩
  case true =>
    clear hcut
    go_quiet ((first | (with_reducible exact K1.out _) | (with_reducible exact K2.out _) | (with_reducible exact K3.out _)))
    clear ct cr hckt hckr K1 K2 K3
    have S2 := S1.later (below_of_drewN (w' := W1.drewN nq) rfl)
    have hj2 := hJ _ _ _ hj1 (below_of_drewN (B := B0) (w' := W1.drewN nq) rfl)
    have hk2 := hk1.trans (KeepF.of_below (k0 := b.k0) (lo := b.lo) (hi := b.hi) (below_of_drewN (w' := W1.drewN nq) rfl))
    have hBW2 : B0 ≤ (W1.drewN nq).heap.size := Nat.le_trans hBW hk2.size
    clear S1 hj1 hk1 hBW1 t0 t1 t2
    generalize W1.drewN nq = W2 at *
    have ct := S2.ct
    have cr := S2.cr
    have cy := S2.cy
    go_upto_region 5 with fail
    refine (wpIn_wide (n := 5)).1 ?_
    have hsm : ∀ xs ∈ t, xs.length ≤ 1048576 := fun xs hxs => by
      obtain ⟨q, hq, rfl⟩ := List.getElem_of_mem hxs
      have := (T.out.row q (by rw [← T.out.rl]; exact hq)).1
      rw [rx_lt hq] at this
      omega
    have hsm2 : ∀ xs ∈ rowsF b.c M b.r, xs.length ≤ 1048576 := fun xs hxs => by
      simp only [rowsF, List.mem_map] at hxs
      obtain ⟨q, _, rfl⟩ := hxs
      unfold rowF
      rw [List.length_take]; omega
    have K := Lib.hid (implIsRounding b.A b.r b.cA t (some ⟨b.gR, 0, none⟩) b.r b.cR (rowsF b.c M b.r) W2 (C.rows.below S2.below) (by omega) hsm S2.own.at_ (by omega) hsm2)
    have hgo : Hid (goF t b.c b.r 0 M = if isRounding t (rowsF b.c M b.r) then [M] else []) := rfl
    clear hsm hsm2
    obtain ⟨ok, hok⟩ : ∃ ok, isRounding t (rowsF b.c M b.r) = ok := ⟨_, rfl⟩
    rw [hok] at K hgo
    rw [eA] at K
    clear hok
    gi_wp2_with fail
    refine ⟨trivial, callsIn_wide.2 (K.out.mono ?_)⟩
    rintro e W3 ⟨rfl, hb3⟩
    have S3 := S2.later hb3
    have hj3 := hJ _ _ _ hj2 (hb3.mono hBW2)
    have hk3 := hk2.trans (KeepF.of_below (k0 := b.k0) (lo := b.lo) (hi := b.hi) hb3)
    clear ct cr cy K S2 hj2 hk2
    have cr := S3.cr
    have cy := S3.cy
    cases ok
    · have HG : Hid (goF t b.c b.r 0 M = []) := hgo
      gi_wp2
      refine ⟨fun _ _ => trivial, ?_⟩
      gi_wp2
      go_wp2
      go_ret
      exact .inl ⟨rfl, ⟨M, S3, HMP.out⟩, hk3, by rw [HG.out]; simpa [encF] using hj3⟩
    · have HG : Hid (goF t b.c b.r 0 M = [M]) := hgo
      have hlt : pre.length < N := by rw [HG.out, List.length_singleton] at hN; omega
      obtain ⟨fn, tmps, assign, body, hy, hR⟩ := hY (5 - 1) pre (.slice (some ⟨b.gR, 0, none⟩) b.r b.cR, M) W3 hj3 S3.told hlt
      clear hgo hN
      gi_wp2
      first | refine hR.mono ?_ | (refine ⟨fun _ _ => trivial, ?_⟩; gi_wp2; refine hR.mono ?_) | (trace_state; fail "y")
      rintro e W4 (⟨rfl, hj4, hg4⟩ | ⟨rfl, hx4⟩)
      · have S4 := S3.grown C hg4
        have hk4 := hk3.trans (KeepF.of_grown (lo := b.lo) (hi := b.hi) hg4)
        gi_wp2
        go_wp2
        go_ret
        exact .inl ⟨rfl, ⟨M, S4, HMP.out⟩, hk4, by rw [HG.out]; exact hj4⟩
      · gi_wp2
        go_wp2
        go_ret
        exact .inr ⟨rfl, [M], by rw [HG.out]; exact List.prefix_refl _, by simp, hx4⟩
end Go.Proofs.Ytefppihanblhmaa
