/- The reference's search for roundings: by induction on the entries that are left. -/
import Derived.Test.YtmkfahcffeegeaaSrchZ
import Derived.Test.YtmkfahcffeegeaaFillD
import Derived.Test.YtmkfahcffeegeaaSums
namespace Go.Proofs.Ytmkfahcffeegeaa
set_option linter.unusedVariables false
open Go.RowKit

theorem firstF_append {c r : Nat} {P Q : List (List Int)} {v : Value} {W : World} (hP : P ≠ []) (h : firstF c r P v W) : firstF c r (P ++ Q) v W := by
  cases P with
  | nil => exact absurd rfl hP
  | cons m P => exact h
theorem low_eq {x : Int} : (lowOf x == x) = decide (x % 10 = 0) := by
  unfold lowOf
  rw [Bool.eq_iff_iff, beq_iff_eq, decide_eq_true_eq]; omega
set_option maxRecDepth 100000 in
set_option maxHeartbeats 4000000 in
theorem srch_any {t : List (List Int)} {c r : Nat} (F : TabF t c r) (A : Option Addr) (cA : Nat) : ∀ (f : Nat) (l : List Int) (B : Option Addr) (d k : Nat) (w : World), l.length + f = r * c → RowsAt w A r t → IntsAt w B l.length l → l.length ≤ d → 1 ≤ k → k ≤ 100000 → (∀ x ∈ l, 0 ≤ x ∧ x ≤ 2000) →
    Calls Try.prog 16 #[.slice A r cA, .slice B l.length d, .int .i64 (k : Int)] w fun e w' => ∃ v, e = .returned (.tuple #[v, .int .i64 ((min (goF t c r f l).length k : Nat) : Int)]) ∧ firstF c r (goF t c r f l) v w' ∧ Below w.heap.size w w' := by
  intro f
  induction f with
  | zero =>
    intro l B d k w hp h hl hd hk hk2 hb
    have e : l.length = r * c := by omega
    rw [e] at hl hd ⊢
    exact srch_full F A cA l B d k w h hl hd hk
  | succ f ih =>
    intro l B d k w hp h hl hd hk hk2 hmb
    have c1 := F.c1
    have c4 := F.c4
    have r1 := F.r1
    have r4 := F.r4
    have T := Lib.hid F
    have HMB := Lib.hid hmb
    have hm16 : r * c ≤ 4 * 4 := Nat.mul_le_mul r4 c4
    obtain ⟨p, hpl⟩ : ∃ p, l.length = p := ⟨_, rfl⟩
    rw [hpl] at hl hd hp ⊢
    have hpb : p < r * c := by omega
    obtain ⟨i, hi⟩ : ∃ i, p / c = i := ⟨_, rfl⟩
    obtain ⟨kk, hkk⟩ : ∃ kk, p % c = kk := ⟨_, rfl⟩
    have hat := F.at_ hpb
    rw [hi, hkk] at hat
    obtain ⟨hir, hkc, x0, x1⟩ := hat
    have hpe : p = i * c + kk := by rw [← hi, ← hkk, Nat.mul_comm]; exact (Nat.div_add_mod p c).symm
    have q1 : (p : Int) / (c : Int) = (i : Int) := by rw [← hi]; exact (Int.natCast_ediv _ _).symm
    have q2 : (p : Int) % (c : Int) = (kk : Int) := by rw [← hkk]; exact (Int.natCast_emod _ _).symm
    have q3 : (p : Int).tdiv (c : Int) = (i : Int) := by rw [Int.tdiv_eq_ediv_of_nonneg (by omega)]; exact q1
    have q4 : (p : Int).tmod (c : Int) = (kk : Int) := by rw [Int.tmod_eq_emod_of_nonneg (by omega)]; exact q2
    have hcut := cut_at (t := t) (M := l) c1 hi hkk (by omega)
    rw [List.take_of_length_le (by omega)] at hcut
    have hx : ix (rx t i) kk = atF t c p := by unfold atF; rw [hi, hkk]
    have m1 : (r : Int) * (c : Int) = ((r * c : Nat) : Int) := by rw [Int.natCast_mul]
    obtain ⟨m, hm⟩ : ∃ m, r * c = m := ⟨_, rfl⟩
    rw [hm] at m1 hm16 hpb hp
    have HP := Lib.hid hp
    have HPL := Lib.hid hpl
    have HPE := Lib.hid hpe
    have HM := Lib.hid hm
    have hp16 : p ≤ 16 := by omega
    have z0 : ((c : Int) == 0) = false := by rw [beq_eq_false_iff_ne]; omega
    have zm : ((p : Int) == (m : Int)) = false := by rw [beq_eq_false_iff_ne]; omega
    have HG : Hid (cutF t c l = true → goF t c r (f + 1) l = []) := fun h => by show _ = _; unfold goF; rw [if_pos h]
    have HGN : Hid (cutF t c l = false → goF t c r (f + 1) l = goF t c r f (l ++ [lowOf (atF t c p)]) ++ (if atF t c p % 10 = 0 then [] else goF t c r f (l ++ [lowOf (atF t c p) + 10]))) := fun h => by
      show _ = _
      conv => lhs; unfold goF
      rw [if_neg (by rw [h]; simp), HPL.out]
    obtain ⟨x, hxx⟩ : ∃ x, atF t c p = x := ⟨_, rfl⟩
    rw [hxx] at HGN hx x0 x1
    have HX := Lib.hid hx
    clear hi hkk hpe hm hp hpl hmb hxx hx
    obtain ⟨b0, o0, A0, d0, eA, _, hck0, _, hin0⟩ := h.at_ (show 0 < r by omega)
    have hl0 := (T.out.row 0 (by omega)).1
    rw [hl0, Nat.add_zero] at hck0
    cases eA
    clear hl0 hin0
    have hkpos : ¬ kk = 0 ∨ (kk = 0 ∧ i = 0) ∨ (kk = 0 ∧ 0 < i) := by omega
    have hi2 : i < r := hir
    obtain ⟨b3, o3, At3, d3, eA3, _, hckt3, _, hint3⟩ := h.at_ hi2
    cases eA3
    rw [(T.out.row i hi2).1] at hckt3 hint3
    obtain ⟨b4, o4, rfl, _, hc4⟩ := hint3.at_ hkc
    have cx := hc4 kk hkc
    rw [HX.out] at cx
    have hi3 : (i : Int) < (r : Int) := by omega
    have hk3 : (kk : Int) < (c : Int) := by omega
    have zc : ¬ c = 0 := by omega
    have wi : IntKind.i64.wrap (i : Int) = (i : Int) := IntWalk.i64_in _ (by omega)
    have wk : IntKind.i64.wrap (kk : Int) = (kk : Int) := IntWalk.i64_in _ (by omega)
    clear hc4 hint3
    go_enter Try.func16, Try.ntmps16
    rcases hkpos with hk0 | ⟨hk0, hi0⟩ | ⟨hk0, hi1⟩
    case' inl =>
      have t0 : ((kk : Int) == 0) = false := by rw [beq_eq_false_iff_ne]; omega
      rw [decide_eq_false hk0] at hcut
      have HNC := Lib.hid (HGN.out hcut)
      clear hcut
      go_upto_region 16 with fail
      go_quiet (fail)
      have hb : Below w.heap.size w (w.drewN nq) := below_of_drewN rfl
      clear HG HGN t0 hk0 hck0 hckt3 cx
      generalize w.drewN nq = W2 at *
    case' inr.inl =>
      have t0 : ((kk : Int) == 0) = true := by rw [beq_iff_eq]; omega
      have hp0 : p = 0 := by rw [HPE.out, hk0, hi0]; omega
      have t2 : ¬ ((0 : Int) < (p : Int)) := by omega
      rw [decide_eq_false (show ¬ 0 < i by omega)] at hcut
      simp only [Bool.and_false, Bool.false_and] at hcut
      have HNC := Lib.hid (HGN.out hcut)
      have HP0 := Lib.hid hp0
      clear hcut hp0 hi0 hk0
      go_upto_region 16 with fail
      go_quiet (fail)
      have hb : Below w.heap.size w (w.drewN nq) := below_of_drewN rfl
      clear HG HGN t0 t2 hck0 hckt3 cx HP0
      generalize w.drewN nq = W2 at *
    case' inr.inr =>
      have t0 : ((kk : Int) == 0) = true := by rw [beq_iff_eq]; omega
      obtain ⟨j, hij⟩ : ∃ j, i = j + 1 := ⟨i - 1, by omega⟩
      obtain ⟨q, hq⟩ : ∃ q, j * c = q := ⟨_, rfl⟩
      have hpq : p = q + c := by rw [HPE.out, hij, hk0, Nat.add_mul, Nat.one_mul, hq]; omega
      have t2 : (0 : Int) < (p : Int) := by omega
      have q5 : (j : Int) * (c : Int) = (q : Int) := by rw [← hq, Int.natCast_mul]
      obtain ⟨b, o, eB, _, _⟩ := hl.at_ (k := 0) (by omega)
      cases eB
      have hrow : IntsAt w (some ⟨b, o + q, none⟩) c (rowF c l j) := by
        rw [← hq]
        refine rowF_at (r := j + 1) ?_ (by omega)
        rw [Nat.add_mul, Nat.one_mul, hq, ← hpq]; exact hl
      obtain ⟨b1, o1, At, d1, eA1, _, hckt, _, hint⟩ := h.at_ (show j < r by omega)
      cases eA1
      rw [(T.out.row j (by omega)).1] at hckt hint
      have bdt : ∀ x ∈ rx t j, 0 ≤ x ∧ x ≤ 1000000000 := fun x hx => by
        obtain ⟨u, hu, rfl⟩ := List.getElem_of_mem hx
        have h9 := T.out.row j (by omega)
        have := h9.2 u (by omega)
        rw [ix_lt hu] at this
        omega
      have bdr : ∀ x ∈ rowF c l j, 0 ≤ x ∧ x ≤ 1000000000 := fun x hx => by
        have := HMB.out x (List.mem_of_mem_drop (List.mem_of_mem_take hx))
        omega
      have hpc : p - q = c := by omega
      have hrow2 : IntsAt w (some ⟨b, o + q, none⟩) (p - q) (rowF c l j) := by rw [hpc]; exact hrow
      have K1 := Lib.hid (fun n => Calls.quiet_of_same (n := n) ((l13Sum_any At c d1 (rx t j) _ (hint.drewN n) (by omega) bdt).mono fun _ _ ⟨he, hw⟩ => ⟨he, hw.symm⟩))
      have K2 := Lib.hid (fun n => Calls.quiet_of_same (n := n) ((l13Sum_any (some ⟨b, o + q, none⟩) (p - q) (d - q) (rowF c l j) _ (hrow2.drewN n) (by omega) bdr).mono fun _ _ ⟨he, hw⟩ => ⟨he, hw.symm⟩))
      have K3 := Lib.hid (fun n => Calls.quiet_of_same (n := n) ((specIsRoundedTo (lsum (rx t j)) (lsum (rowF c l j)) (w.drewN n)).mono fun _ _ ⟨he, hw⟩ => ⟨he, hw.symm⟩))
      rw [decide_eq_true hk0, decide_eq_true hi1, hij, Nat.add_sub_cancel] at hcut
      obtain ⟨rb, hrb⟩ : ∃ rb, isRnd (lsum (rx t j)) (lsum (rowF c l j)) = rb := ⟨_, rfl⟩
      rw [hrb] at hcut K3
      generalize lsum (rx t j) = sa at *
      generalize lsum (rowF c l j) = sb at *
      have j1 : (j : Int) < (r : Int) := by omega
      have j2 : IntKind.i64.wrap ((i : Int) - 1) = (j : Int) := by rw [IntWalk.i64_in _ (by omega)]; omega
      have j3 : (i : Int) - 1 = (j : Int) := by omega
      have hqp : q ≤ p := by omega
      have hqp2 : (q : Int) ≤ (p : Int) := by omega
      have hdq1 : ¬ d = q := by omega
      have hdq2 : ¬ q = d := by omega
      have hdq3 : q < d := by omega
      have hdq4 : ¬ d - q = 0 := by omega
      have wq : IntKind.i64.wrap (q : Int) = (q : Int) := IntWalk.i64_in _ (by omega)
      have HPC := Lib.hid hpc
      have HPQ := Lib.hid hpq
      clear hint hrow hrow2 bdt bdr hrb hij hq hpq hpc hk0
      cases rb
      case false =>
        have hc := Lib.hid (HG.out (by simpa using hcut))
        clear hcut
        go_upto_region 14 with fail
        go_quiet ((first | (with_reducible exact K1.out _) | (with_reducible exact K2.out _) | (with_reducible exact K3.out _)))
        have hb : Below w.heap.size w (w.drewN nq) := below_of_drewN rfl
        go_wp2
        go_ret2
        refine ⟨.slice none 0 0, ?_, ?_, hb⟩
        · rw [hc.out]; simp
        · rw [hc.out]; rfl
      case' true =>
        have HNC := Lib.hid (HGN.out (by simpa using hcut))
        clear hcut
        go_upto_region 14 with fail
        go_quiet ((first | (with_reducible exact K1.out _) | (with_reducible exact K2.out _) | (with_reducible exact K3.out _)))
        have hb1 : Below w.heap.size w (w.drewN nq) := below_of_drewN rfl
        replace hckt3 := cell_carry hb1 hckt3
        replace cx := cell_carry hb1 cx
        generalize w.drewN nq = W1 at *
        go_upto_region 16 with fail
        go_quiet (fail)
        have hb : Below w.heap.size w (W1.drewN nq) := hb1.trans ((below_of_drewN (w := W1) rfl).mono hb1.size)
        clear HG HGN t0 t2 hck0 hckt3 cx hckt K1 K2 K3 hb1
        generalize W1.drewN nq = W2 at *
    all_goals
      have h2 := h.below hb
      have hl2 := hl.below hb
      have hsz := hb.size
      obtain ⟨lw, hlw⟩ : ∃ lw, lowOf x = lw := ⟨_, rfl⟩
      have hlw1 : x - x % 10 = lw := hlw
      have hlx := low_eq (x := x)
      have e5 : x.tmod 10 = x % 10 := Int.tmod_eq_emod_of_nonneg x0
      have lb : 0 ≤ lw ∧ lw ≤ 1000 := by rw [← hlw1]; omega
      rw [hlw] at HNC hlx
      have HLX := Lib.hid hlx
      have m3 : 0 ≤ x % 10 := by omega
      have m2 : x % 10 < 10 := by omega
      have HLW := Lib.hid hlw1
      clear hlw hlw1 hlx
      obtain ⟨P1, hP1⟩ : ∃ P1, goF t c r f (l ++ [lw]) = P1 := ⟨_, rfl⟩
      obtain ⟨P2, hP2⟩ : ∃ P2, goF t c r f (l ++ [lw + 10]) = P2 := ⟨_, rfl⟩
      rw [hP1, hP2] at HNC
      have I : Hid (∀ (y : Int) (P : List (List Int)), 0 ≤ y ∧ y ≤ 2000 → goF t c r f (l ++ [y]) = P → ∀ (B : Option Addr) (d k : Nat) (W : World), RowsAt W (some ⟨b0, o0, none⟩) r t → IntsAt W B (p + 1) (l ++ [y]) → p + 1 ≤ d → 1 ≤ k → k ≤ 100000 →
          Calls Try.prog 16 #[.slice (some ⟨b0, o0, none⟩) r cA, .slice B (p + 1) d, .int .i64 (k : Int)] W fun e w' => ∃ v, e = .returned (.tuple #[v, .int .i64 ((min P.length k : Nat) : Int)]) ∧ firstF c r P v w' ∧ Below W.heap.size W w') := by
        intro y P hy hP B d k W a1 a2 a3 a4 a5
        have e1 : (l ++ [y]).length = p + 1 := by rw [List.length_append, HPL.out]; rfl
        have := ih (l ++ [y]) B d k W (by rw [e1, HM.out]; have := HP.out; omega) a1 (by rw [e1]; exact a2) (by rw [e1]; exact a3) a4 a5 (fun z hz => by
          rw [List.mem_append, List.mem_singleton] at hz
          exact hz.elim (HMB.out z) (fun e => by rw [e]; exact hy))
        rw [e1, hP] at this
        exact this
      have I1 := Lib.hid (I.out lw P1 (by omega) hP1)
      have I2 := Lib.hid (I.out (lw + 10) P2 (by omega) hP2)
      clear hP1 hP2 I ih
      go_upto_region 18 with fail
      rw [HLW.out]
      have oe := OwnI.empty W2 (lo := W2.heap.size) (hi := W2.heap.size + 1) (Nat.le_refl _) (by omega)
      have be := (Below.refl W2.heap.size W2).alloc (Nat.le_refl _) (.cells #[] 3)
      have hin2 := hl2.below be
      have se := World.size_alloc W2 (.cells #[] 3)
      go_wp2_with (at_builtin; refine wpList_append_ints _ rfl _ _ rfl W2.heap.size (W2.heap.size + 1) 0 0 _ [] rfl oe _ p d l rfl hin2 (by omega) (by simp) (by simp) ?_)
      intro A3 c3 w3 ho3 hon
      (try simp only [Nat.zero_add, List.nil_append] at ho3)
      have hb3 := hb.trans ((be.trans (hon.toBelow (B := W2.heap.size) (Nat.le_refl _) (by simp))).mono hsz)
      have hs3 := hon.size
      rw [se] at hs3
      clear hon be hin2 se oe
      go_wp2_with (at_builtin; refine wpList_append_int _ rfl _ _ rfl W2.heap.size w3.heap.size p c3 A3 l rfl (ho3.alloc _) lw _ 1 rfl (new_cell _ _ _ rfl) (by omega) (by rw [World.size_alloc]; omega) (by rw [World.size_alloc]; omega) ?_)
      intro A4 c4' w4 ho4 hon
      have hb4 : Below w.heap.size w w4 := (hb3.alloc (by omega) _).trans (hon.toBelow (by omega) (by simp; omega))
      have hi4 := ho4.ints
      clear hon ho3 ho4 hb3 hs3
      go_wp2_with fail
      (refine (I1.out A4 c4' k w4 (h.below hb4) hi4.1 hi4.2.2.1 hk hk2).mono ?_)
      rintro e w5 ⟨v1, rfl, hf1, hb5⟩
      obtain ⟨n1, hn1⟩ : ∃ n1, min P1.length k = n1 := ⟨_, rfl⟩
      rw [hn1]
      have hb6 := hb4.trans (hb5.mono hb4.size)
      have hn1k : n1 ≤ k := by omega
      have HN1 := Lib.hid hn1
      clear hn1 hi4 hb4 hb5 I1
      by_cases hx0 : x % 10 = 0
      · have tlx : (lw == x) = true := by rw [HLX.out]; exact decide_eq_true hx0
        have HR : Hid (goF t c r (f + 1) l = P1) := by show _ = _; rw [HNC.out, if_pos hx0, List.append_nil]
        clear hx0
        go_wp2
        go_ret2
        refine ⟨v1, ?_, ?_, hb6⟩
        · rw [HR.out, HN1.out]; rfl
        · rw [HR.out]; exact hf1
      · have tlx : (lw == x) = false := by rw [HLX.out]; exact decide_eq_false hx0
        have HR : Hid (goF t c r (f + 1) l = P1 ++ P2) := by show _ = _; rw [HNC.out, if_neg hx0]
        clear hx0
        by_cases hnk : n1 = k
        · have hge : (k : Int) ≤ (n1 : Int) := by omega
          have hne : P1 ≠ [] := fun e => by have := HN1.out; rw [e] at this; simp at this; omega
          have hmin : min (P1 ++ P2).length k = n1 := by have := HN1.out; rw [List.length_append]; omega
          have HMN := Lib.hid hmin
          clear hnk hmin
          go_wp2
          go_ret2
          refine ⟨v1, ?_, ?_, hb6⟩
          · rw [HR.out, HMN.out]; rfl
          · rw [HR.out]; exact firstF_append hne hf1
        · have hlt : (n1 : Int) < (k : Int) := by omega
          obtain ⟨k2, hk2e⟩ : ∃ k2 : Nat, (k : Int) - (n1 : Int) = (k2 : Int) := ⟨k - n1, by omega⟩
          have hk21 : 1 ≤ k2 := by omega
          have hk22 : k2 ≤ 100000 := by omega
          have HK2 : Hid (k = n1 + k2) := by show _ = _; omega
          have hl5 := hl.below hb6
          have hsz5 := hb6.size
          clear hnk
          have oe := OwnI.empty w5 (lo := w5.heap.size) (hi := w5.heap.size + 1) (Nat.le_refl _) (by omega)
          have be := (Below.refl w5.heap.size w5).alloc (Nat.le_refl _) (.cells #[] 3)
          have hin5 := hl5.below be
          have se := World.size_alloc w5 (.cells #[] 3)
          go_wp2_with (at_builtin; refine wpList_append_ints _ rfl _ _ rfl w5.heap.size (w5.heap.size + 1) 0 0 _ [] rfl oe _ p d l rfl hin5 (by omega) (by simp) (by simp) ?_)
          intro A6 c6 w6 ho6 hon
          (try simp only [Nat.zero_add, List.nil_append] at ho6)
          have hb7 := hb6.trans ((be.trans (hon.toBelow (B := w5.heap.size) (Nat.le_refl _) (by simp))).mono hsz5)
          have hs6 := hon.size
          rw [se] at hs6
          have hb56 := be.trans (hon.toBelow (B := w5.heap.size) (Nat.le_refl _) (by simp))
          clear hon be hin5 se oe
          go_wp2_with (at_builtin; refine wpList_append_int _ rfl _ _ rfl w5.heap.size w6.heap.size p c6 A6 l rfl (ho6.alloc _) (lw + 10) _ 1 rfl (new_cell _ _ _ rfl) (by omega) (by rw [World.size_alloc]; omega) (by rw [World.size_alloc]; omega) ?_)
          intro A7 c7 w7 ho7 hon
          have hb58 : Below w5.heap.size w5 w7 := (hb56.alloc (by omega) _).trans (hon.toBelow (by omega) (by simp; omega))
          have hb8 : Below w.heap.size w w7 := hb6.trans (hb58.mono hsz5)
          have hi7 := ho7.ints
          clear hon ho6 ho7 hb7 hs6 hb56
          go_wp2_with fail
          (refine (I2.out A7 c7 k2 w7 (h.below hb8) hi7.1 hi7.2.2.1 hk21 hk22).mono ?_)
          rintro e w8 ⟨v2, rfl, hf2, hb9⟩
          obtain ⟨n2, hn2⟩ : ∃ n2, min P2.length k2 = n2 := ⟨_, rfl⟩
          rw [hn2]
          have hb10 := hb8.trans (hb9.mono hb8.size)
          have hb510 := hb58.trans (hb9.mono hb58.size)
          have hf1' := hf1.below hb510
          have hmin : min (P1 ++ P2).length k = n1 + n2 := by have h1 := HN1.out; have h2 := HK2.out; rw [List.length_append]; omega
          have hn2k : n2 ≤ k2 := by omega
          have HMN := Lib.hid hmin
          have hz1 : n1 = 0 → P1 = [] := fun e => by
            have h1 := HN1.out
            exact List.eq_nil_of_length_eq_zero (by omega)
          have hz2 : ¬ n1 = 0 → P1 ≠ [] := fun e e2 => by
            have h1 := HN1.out
            rw [e2] at h1
            simp at h1; omega
          clear hn2 hmin hb8 hb9 hb58 hb510 hi7 I2 hk2e hf1 hl5
          by_cases hn0 : n1 = 0
          · have tz : ((n1 : Int) == 0) = true := by rw [beq_iff_eq]; omega
            have HP1 := Lib.hid (hz1 hn0)
            have HN0 := Lib.hid hn0
            clear hn0 hz1 hz2
            go_wp2
            go_ret2
            refine ⟨v2, ?_, ?_, hb10⟩
            · rw [HR.out, HMN.out, HN0.out]; simp
            · rw [HR.out, HP1.out]; exact hf2
          · have tz : ((n1 : Int) == 0) = false := by rw [beq_eq_false_iff_ne]; omega
            have HP1 := Lib.hid (hz2 hn0)
            clear hn0 hz1 hz2
            go_wp2
            go_ret2
            refine ⟨v1, ?_, ?_, hb10⟩
            · rw [HR.out, HMN.out, Int.natCast_add]; rfl
            · rw [HR.out]; exact firstF_append HP1.out hf1'
end Go.Proofs.Ytmkfahcffeegeaa
