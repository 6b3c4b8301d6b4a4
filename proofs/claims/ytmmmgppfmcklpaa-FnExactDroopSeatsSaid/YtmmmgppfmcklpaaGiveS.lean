/- Seats given to the greatest remainders: the reference's side, one after the other. -/
import Derived.Test.YtmmmgppfmcklpaaSortI
import Derived.Test.YtmmmgppfmcklpaaPair
import Derived.Test.YtmmmgppfmcklpaaSumC
namespace Go.Proofs.Ytmmmgppfmcklpaa
set_option linter.unusedVariables false
open Go.RowKit

theorem best_step_yes {rs : List Int} {u : Nat → Bool} {k : Nat} (h1 : u k = false) (h2 : bestTo rs u k < 0 ∨ rv rs (bestTo rs u k) < ix rs k) : bestTo rs u (k + 1) = k := by
  rw [bestTo, h1, if_pos (by simpa using h2)]
theorem best_step_no1 {rs : List Int} {u : Nat → Bool} {k : Nat} (h1 : u k = true) : bestTo rs u (k + 1) = bestTo rs u k := by rw [bestTo, h1]; rfl
theorem best_step_no2 {rs : List Int} {u : Nat → Bool} {k : Nat} (h2 : ¬ bestTo rs u k < 0) (h3 : ¬ rv rs (bestTo rs u k) < ix rs k) : bestTo rs u (k + 1) = bestTo rs u k := by
  rw [bestTo, decide_eq_false h2, decide_eq_false h3]; simp
theorem best_bd (rs : List Int) (u : Nat → Bool) (k : Nat) : bestTo rs u k = -1 ∨ ∃ b : Nat, bestTo rs u k = b ∧ b < k := by
  rcases best_inv rs u k with ⟨h, _⟩ | ⟨b, h1, h2, _⟩
  · exact .inl h
  · exact .inr ⟨b, h1, h2⟩
set_option maxRecDepth 100000 in
set_option maxHeartbeats 4000000 in
theorem l13Give_any (A : Option Addr) (c l : Nat) (ss : List Int) (B : Option Addr) (d : Nat) (rs : List Int) (k : Int) (m : Nat) (w : World) (hs : IntsAt w A l ss) (hr : IntsAt w B l rs)
    (hl1 : 1 ≤ l) (hl6 : l ≤ 6) (hrb : ∀ i, i < l → 0 ≤ ix rs i ∧ ix rs i ≤ 1000000000) (hsb : ∀ i, i < l → 0 ≤ ix ss i ∧ ix ss i ≤ 1000000) (hm : k - lsum ss = m) (hml : m ≤ l) (hk : 0 ≤ k ∧ k ≤ 1000) :
    Calls Try.prog 17 #[.slice A l c, .slice B l d, .int .i64 k] w fun e w' => ∃ A' c', e = .returned (.slice A' l c') ∧ OwnI w' w.heap.size w'.heap.size (.slice A' l c') (giveTo ss (sortS rs l) m) ∧ Below w.heap.size w w' := by
  obtain rfl := hs.len
  have HRB := Lib.hid hrb
  have HSB := Lib.hid hsb
  obtain ⟨T, hT0⟩ : ∃ T, sortS rs ss.length = T := ⟨_, rfl⟩
  have HT := Lib.hid (fun i (hi : i < ss.length) => sortS_at (rs := rs) hi)
  have HBN := Lib.hid (fun t (ht : t < ss.length) => best_next (rs := rs) ht)
  have hTl := Nat.le_of_eq (sortS_len rs ss.length).symm
  rw [hT0] at HT hTl HBN ⊢
  clear hT0 hrb hsb
  have HGB := Lib.hid (fun t (ht : t ≤ m) => giveTo_bd (seats := ss) (T := T) (m := 1000000) (t := t) (fun i hi => HSB.out i (by omega)) (fun i hi => by have := HT.out i (by omega); omega))
  have HGS := Lib.hid (fun t (ht : t ≤ m) => giveTo_sum (seats := ss) (T := T) (t := t) (fun i hi => by have := HT.out i (by omega); omega))
  have HGL := Lib.hid (fun t => giveTo_len ss T t)
  obtain ⟨sb1, sb2⟩ := lsum_bd ss 1000000 (fun x hx => by obtain ⟨j, hj, rfl⟩ := List.getElem_of_mem hx; have := HSB.out j (by omega); rw [ix_lt hj] at this; omega)
  go_enter Try.func17, Try.ntmps17
  have hbe := (Below.refl w.heap.size w).alloc (Nat.le_refl _) (.cells #[] 3)
  go_wp2_with (at_builtin; refine wpList_append_ints _ rfl _ _ rfl w.heap.size (w.heap.size + 1) 0 0 _ [] rfl (OwnI.empty w (Nat.le_refl _) (by omega)) A ss.length c ss rfl (hs.below hbe) (by omega) (by simp) (by simp) ?_)
  intro A1 c1 w1 ho hon
  have hb1 := hbe.trans (hon.toBelow (Nat.le_refl _) (by simp))
  obtain ⟨g, rfl, hgl, hgh⟩ := ho.head (by omega)
  have s1 := hb1.size
  clear hbe hon
  go_wp2_with ((with_reducible refine wpList_make_bools _ rfl _ _ rfl ss.length rfl rfl (by omega) ?_))
  intro w2 hu hb2 hs2
  replace ho := ho.belowW hb2
  replace hb1 := hb1.trans (hb2.mono s1)
  replace s1 := hb1.size
  clear hb2
  rw [← seenB_0 ss.length T] at hu
  go_wp2
  go_loopw [9, 10, 11, 24] (fun _ _ _ _ wr => ∃ t : Nat, t ≤ m ∧ OwnI wr w.heap.size w1.heap.size (.slice (some ⟨g, 0, none⟩) ss.length c1) (giveTo ss T t) ∧ OwnB wr w1.heap.size (w1.heap.size + 1) (.slice (some ⟨w1.heap.size, 0, none⟩) ss.length ss.length) (seenB ss.length T t) ∧ Below w.heap.size w wr) (fun _ _ _ _ wr => (k - sumC wr g ss.length).toNat)
  case atStart => exact ⟨0, Nat.zero_le _, ho, hu, hb1⟩
  case round =>
    obtain ⟨t, ht, ho, hu, hb⟩ := hrel
    have zr := hb.size
    have esum := sumC_own ho
    rw [HGS.out t ht] at esum
    have hge := HGS.out t ht
    have hgl_ := HGL.out t
    have HX := Lib.hid (fun x (hx : x ∈ giveTo ss T t) => show 0 ≤ x ∧ x ≤ 1000000000 from by obtain ⟨j, hj, rfl⟩ := List.getElem_of_mem hx; have := HGB.out t ht j (by omega); rw [ix_lt hj] at this; omega)
    by_cases hlt : t < m
    · go_wp2_with fail
      (with_reducible refine (l13Sum_any _ _ _ _ _ ho.at_ (by omega) HX.out).mono ?_)
      rintro e w3 ⟨rfl, rfl⟩
      rw [hge]
      have ts : lsum ss + (t : Int) < k := by omega
      clear hge
      have hr2 := hr.below hb
      obtain ⟨bo, oo, rfl, _, hcr⟩ := hr2.at_ (show 0 < ss.length by omega)
      have HCR := Lib.hid hcr
      clear hcr hr2
      go_wp2
      obtain ⟨wo, rfl⟩ : ∃ wo, wo = wr := ⟨_, rfl⟩
      go_loopw [9, 10, 11, 24] (fun b_ _ _ i_ wr => ∃ i : Nat, i ≤ ss.length ∧ i_ = .int .i64 i ∧ b_ = .int .i64 (bestTo rs (usedB T t) i) ∧ wr = wo) (fun _ _ _ i_ _ => ss.length - (intOf i_).toNat)
      case atStart => exact ⟨0, Nat.zero_le _, rfl, rfl, rfl⟩
      case round =>
        obtain ⟨i, hi, rfl, rfl, rfl⟩ := hrel
        by_cases hil : i < ss.length
        · have ci := HCR.out i hil
          have cu := hu.cellAt i hil
          rw [bx_seenB hil] at cu
          have HU : Hid (has (T.take t) (i : Int) = usedB T t i) := rfl
          rw [HU.out] at cu
          have i1 : (0 : Int) ≤ (i : Int) := by omega
          have i2 : (i : Int) < (ss.length : Int) := by omega
          cases hui : usedB T t i
          · rw [hui] at cu
            have HY := Lib.hid (best_step_yes (rs := rs) hui)
            have HN := Lib.hid (best_step_no2 (rs := rs) (u := usedB T t) (k := i))
            rcases best_bd rs (usedB T t) i with hb0 | ⟨bp, hb0, hbl⟩
            · have HE := Lib.hid (HY.out (.inl (by omega)))
              rw [hb0]
              clear hui hb0
              go_wp2
              go_roundw
              case rel => exact ⟨i + 1, by omega, by go_num, by rw [HE.out], by first | rfl | trivial⟩
              case measure => simp [intOf]; omega
            · have cb := HCR.out bp (by omega)
              have b1 : (0 : Int) ≤ (bp : Int) := by omega
              have b2 : (bp : Int) < (ss.length : Int) := by omega
              have erv : rv rs (bp : Int) = ix rs bp := by unfold rv; simp
              rw [hb0, erv] at HY HN
              rw [hb0]
              by_cases hbb : ix rs bp < ix rs i
              · have HE := Lib.hid (HY.out (.inr hbb))
                clear hui hb0 erv
                generalize ix rs i = vi at *
                generalize ix rs bp = vb at *
                go_wp2
                go_roundw
                case rel => exact ⟨i + 1, by omega, by go_num, by rw [HE.out], by first | rfl | trivial⟩
                case measure => simp [intOf]; omega
              · have HE := Lib.hid (HN.out (by omega) hbb)
                clear hui hb0 erv
                generalize ix rs i = vi at *
                generalize ix rs bp = vb at *
                go_wp2
                go_roundw
                case rel => exact ⟨i + 1, by omega, by go_num, by rw [HE.out], by first | rfl | trivial⟩
                case measure => simp [intOf]; omega
          · rw [hui] at cu
            have HE := Lib.hid (best_step_no1 (rs := rs) hui)
            clear hui
            generalize bestTo rs (usedB T t) i = bt at *
            go_wp2
            go_roundw
            case rel => exact ⟨i + 1, by omega, by go_num, by rw [HE.out], by first | rfl | trivial⟩
            case measure => simp [intOf]; omega
        · obtain rfl : i = ss.length := by omega
          obtain ⟨x0, x1⟩ := HT.out t (by omega)
          obtain ⟨p, hp⟩ : ∃ p : Nat, ix T t = (p : Int) := ⟨(ix T t).toNat, by omega⟩
          have hpl : p < ss.length := by omega
          rw [HBN.out t (by omega), hp]
          have HNX : Hid (giveTo ss T (t + 1) = (giveTo ss T t).set p (ix (giveTo ss T t) p + 1)) := by show giveTo ss T (t + 1) = _; rw [giveTo, hp]; rfl
          have bp := HGB.out t ht p (by omega)
          obtain ⟨ou, nu⟩ := hu.stored p true
          rw [seenB_set (by omega) hp] at ou
          have fu := hu.frozenAt p
          have cu := hu.cellAt p hpl
          have ho2 := ho.only nu (by omega)
          have cp := ho2.cellAt p hpl
          have fp := ho2.frozenAt p
          obtain ⟨o1, n1'⟩ := ho2.stored p (ix (giveTo ss T t) p + 1)
          rw [← HNX.out] at o1
          have O1 := Lib.hid o1
          have O2 := Lib.hid (ou.only n1' (by omega))
          have ON := Lib.hid (hb.trans ((nu.toBelow (B := w.heap.size) (by omega) zr).trans (n1'.toBelow (B := w.heap.size) (by omega) (by simp [World.setCell]; omega))))
          have ES := Lib.hid ((sumC_own o1).trans (HGS.out (t + 1) (by omega)))
          have p0 : (0 : Int) ≤ (p : Int) := by omega
          have p1 : (p : Int) < (ss.length : Int) := by omega
          clear o1 n1' ho hu ho2 ou nu hb hp x0 x1
          generalize ix (giveTo ss T t) p = cc at *
          generalize bx (seenB ss.length T t) p = ub at *
          go_wp2
          go_roundw
          case rel => exact ⟨t + 1, by omega, O1.out, O2.out, ON.out⟩
          case measure => rw [ES.out, esum]; omega
    · obtain rfl : t = m := by omega
      go_wp2_with fail
      (with_reducible refine (l13Sum_any _ _ _ _ _ ho.at_ (by omega) HX.out).mono ?_)
      rintro e w3 ⟨rfl, rfl⟩
      rw [hge]
      have ts : ¬ (lsum ss + (t : Int) < k) := by omega
      clear hge
      go_wp2
      go_ret
      exact ⟨_, _, rfl, ho.mono (Nat.le_refl _) (Nat.le_of_lt hu.num.2.1), hb⟩
end Go.Proofs.Ytmmmgppfmcklpaa
