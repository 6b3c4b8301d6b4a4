/- Elimination, the reference's side: l07Out, l07Number, l07Sum, l07Bad. Elimination, the reference's side: l07Sum, l07Bad, l07Order, the three orders. -/
import Derived.Test.YtaanppihgldeaaaGreatDoorW20
import Derived.Test.YtaanppihgldeaaaGreatDoorW15
namespace Go.Proofs.YtaanppihgldeaaaGreatDoor
set_option linter.unusedSimpArgs false
set_option linter.unusedVariables false
set_option linter.unusedVariables false
open Go.RowKit

theorem pref_total {m : Int} {r : List Int} (h : rankOk m r = true) {a b : Int} (ha : 0 ≤ a ∧ a < m) (hb : 0 ≤ b ∧ b < m) (hab : a ≠ b) : pref r a b = !pref r b a := by
  obtain ⟨M, rfl⟩ : ∃ M : Nat, m = (M : Int) := ⟨m.toNat, by omega⟩
  have pa := rank_place h ha.1 ha.2
  have pb := rank_place h hb.1 hb.2
  have hne : place r a ≠ place r b := fun e => by
    have h1 := place_at pa.1
    have h2 := place_at pb.1
    rw [e, h2] at h1
    exact hab h1.symm
  unfold pref
  rw [decide_eq_true pa.1, decide_eq_true pb.1, Bool.true_and, Bool.true_and, Bool.true_and, Bool.eq_iff_iff, Bool.not_eq_true', decide_eq_true_eq, decide_eq_false_iff_not]
  omega
theorem vts_congr {f g : List Int → Bool} {vs : List Vt} (h : ∀ v ∈ vs, f v.r = g v.r) : vts f vs = vts g vs := by
  have key : ∀ k, k ≤ vs.length → vtsTo f vs k = vtsTo g vs k := by
    intro k
    induction k with
    | zero => intro _; rfl
    | succ k ih => intro hk; rw [vtsTo, vtsTo, ih (by omega), h _ (vx_mem (by omega))]
  exact key _ (Nat.le_refl _)
theorem vts_none (vs : List Vt) : vts (fun _ => false) vs = 0 := by
  have key : ∀ k, vtsTo (fun _ => false) vs k = 0 := by
    intro k
    induction k with
    | zero => rfl
    | succ k ih => rw [vtsTo, ih, if_neg (by simp)]; rfl
  exact key _
theorem pair_same (vs : List Vt) (a : Int) : pairP vs a a = 0 := by
  unfold pairP
  rw [vts_congr (g := fun _ => false) fun v _ => pref_same v.r a]
  exact vts_none vs
theorem okO_iff {M : Nat} {out : List Int} {a : Int} {last : Bool} {r : List Int} : okO M out a last r = true ↔ ∀ b : Nat, b < M → ((b : Int) = a ∨ (b : Int) ∈ out) ∨ pref r a (b : Int) ≠ last := by
  unfold okO
  rw [allN_iff]
  constructor
  · intro h b hb
    have := h b hb
    rw [Bool.or_eq_true, Bool.or_eq_true, beq_iff_eq, has_iff, bne_iff_ne] at this
    exact this
  · intro h b hb
    rw [Bool.or_eq_true, Bool.or_eq_true, beq_iff_eq, has_iff, bne_iff_ne]
    exact h b hb
theorem firstP_iff {left r : List Int} {a : Int} : firstP left r a = true ↔ ∀ b ∈ left, pref r b a = false := by
  unfold firstP
  rw [Bool.not_eq_true', List.any_eq_false]
  constructor
  · intro h b hb; have := h b hb; simpa using this
  · intro h b hb; rw [h b hb]; simp
theorem lastP_iff {left r : List Int} {a : Int} : lastP left r a = true ↔ ∀ b ∈ left, pref r a b = false := by
  unfold lastP
  rw [Bool.not_eq_true', List.any_eq_false]
  constructor
  · intro h b hb; have := h b hb; simpa using this
  · intro h b hb; rw [h b hb]; simp
theorem first_num {M : Nat} {vs : List Vt} (F : PF (M : Int) vs) {out : List Int} {a : Int} (ha : a ∈ leftO M out) : firstN vs (leftO M out) a = numO vs M out a false := by
  obtain ⟨ha1, ha2⟩ := leftO_mem ha
  unfold firstN numO
  refine vts_congr fun v hv => ?_
  rw [Bool.eq_iff_iff, firstP_iff, okO_iff]
  have hr := F.r v hv
  constructor
  · intro h b hb
    by_cases e : (b : Int) = a
    · exact .inl (.inl e)
    · by_cases e2 : (b : Int) ∈ out
      · exact .inl (.inr e2)
      · right
        have h1 := h (b : Int) (leftO_in (by omega) (by omega) e2)
        rw [pref_total hr ha1 (by omega) (Ne.symm e), h1]; simp
  · intro h b hb
    obtain ⟨hb1, hb2⟩ := leftO_mem hb
    by_cases e : b = a
    · subst e; exact pref_same _ _
    · obtain ⟨B, rfl⟩ : ∃ B : Nat, b = (B : Int) := ⟨b.toNat, by omega⟩
      rcases h B (by omega) with (h1 | h1) | h1
      · exact absurd h1 e
      · exact absurd h1 hb2
      · rw [pref_total hr hb1 ha1 e]
        cases hp : pref v.r a (B : Int)
        · exact absurd hp h1
        · rfl
theorem last_num {M : Nat} {vs : List Vt} {out : List Int} {a : Int} (ha : a ∈ leftO M out) : lastN vs (leftO M out) a = numO vs M out a true := by
  unfold lastN numO
  refine vts_congr fun v hv => ?_
  rw [Bool.eq_iff_iff, lastP_iff, okO_iff]
  constructor
  · intro h b hb
    by_cases e : (b : Int) = a
    · exact .inl (.inl e)
    · by_cases e2 : (b : Int) ∈ out
      · exact .inl (.inr e2)
      · right
        rw [h (b : Int) (leftO_in (by omega) (by omega) e2)]; simp
  · intro h b hb
    obtain ⟨hb1, hb2⟩ := leftO_mem hb
    by_cases e : b = a
    · subst e; exact pref_same _ _
    · obtain ⟨B, rfl⟩ : ∃ B : Nat, b = (B : Int) := ⟨b.toNat, by omega⟩
      rcases h B (by omega) with (h1 | h1) | h1
      · exact absurd h1 e
      · exact absurd h1 hb2
      · cases hp : pref v.r a (B : Int)
        · rfl
        · exact absurd hp h1
theorem pairN_add (vs : List Vt) (a : Int) (l : List Int) (x : Int) : pairN vs a (l ++ [x]) (l.length + 1) = pairN vs a l l.length + pairP vs a x := by
  have key : ∀ k, k ≤ l.length → pairN vs a (l ++ [x]) k = pairN vs a l k := by
    intro k
    induction k with
    | zero => intro _; rfl
    | succ k ih =>
      intro hk
      rw [pairN, pairN, ih (by omega), ix_lt (show k < (l ++ [x]).length by simp; omega), List.getElem_append_left (by omega), ← ix_lt]
  rw [pairN, key _ (Nat.le_refl _)]
  congr 2
  rw [ix_lt (by simp), List.getElem_append_right (Nat.le_refl _)]
  simp
theorem sum_bald (vs : List Vt) (out : List Int) (a : Int) : ∀ M, baldN vs (leftO M out) a = sumO vs out a M
  | 0 => rfl
  | M + 1 => by
    have ih := sum_bald vs out a M
    unfold baldN at ih ⊢
    rw [leftO_succ, sumO, ← ih]
    cases hh : has out (M : Int)
    · rw [if_neg (by simp), List.length_append, List.length_singleton, pairN_add]
      by_cases e : (M : Int) = a
      · subst e
        rw [pair_same]; simp
      · have : ((M : Int) != a) = true := by rw [bne_iff_ne]; exact e
        rw [this]; simp
    · rw [if_pos rfl, List.append_nil]; simp
theorem inst_ord {M : Nat} {vs : List Vt} (F : PF (M : Int) vs) : elimP (instF vs) (M : Int) = ordF (badK vs M 0) M M [] := by
  rw [ordF_elim (bf := badK vs M 0) (wf := instF vs) (fun out x hx => first_num F hx) M [] (by rw [leftO_nil, upE_len]), leftO_nil]
  unfold elimP
  rw [Int.toNat_natCast]; rfl
theorem coom_ord {M : Nat} {vs : List Vt} : elimP (coomF vs) (M : Int) = ordF (badK vs M 1) M M [] := by
  rw [ordF_elim (bf := badK vs M 1) (wf := coomF vs) (fun out x hx => by unfold coomF; rw [last_num hx]; rfl) M [] (by rw [leftO_nil, upE_len]), leftO_nil]
  unfold elimP
  rw [Int.toNat_natCast]; rfl
theorem bald_ord {M : Nat} {vs : List Vt} : elimP (baldN vs) (M : Int) = ordF (badK vs M 2) M M [] := by
  rw [ordF_elim (bf := badK vs M 2) (wf := baldN vs) (fun out x _ => sum_bald vs out x M) M [] (by rw [leftO_nil, upE_len]), leftO_nil]
  unfold elimP
  rw [Int.toNat_natCast]; rfl
theorem numO_bd {m : Int} {vs : List Vt} (F : PF m vs) (M : Nat) (out : List Int) (a : Int) (last : Bool) : 0 ≤ numO vs M out a last ∧ numO vs M out a last ≤ 24000 := vts_bd F.c F.n
theorem sumO_bd {m : Int} {vs : List Vt} (F : PF m vs) (out : List Int) (a : Int) : ∀ k, 0 ≤ sumO vs out a k ∧ sumO vs out a k ≤ 24000 * k
  | 0 => by simp [sumO]
  | k + 1 => by
    have := sumO_bd F out a k
    have := pair_bd F a (k : Int)
    rw [sumO]; split <;> omega
theorem specOut (A : Option Addr) (n c : Nat) (xs : List Int) (a : Int) (w : World) (h : IntsAt w A n xs) (hn : n ≤ 1099511627776) :
    Calls Tryz.prog 191 #[.slice A n c, .int .i64 a] w fun e w' => e = .returned (.bool (has xs a)) ∧ w = w' := by
  have K := Lib.hid (specPlaceOf_any A n c xs a w h hn)
  unfold has
  generalize place xs a = p at *
  go_enter Tryz.func191, Tryz.ntmps191
  go_wp2_with fail
  (with_reducible refine (K.out).mono ?_)
  rintro e w1 ⟨rfl, rfl⟩
  go_wp2
  go_ret
  exact ⟨rfl, rfl⟩
set_option maxRecDepth 100000 in
set_option maxHeartbeats 1000000 in
theorem specNumber (M : Nat) (A : Option Addr) (n c : Nat) (vs : List Vt) (B : Option Addr) (l d : Nat) (out : List Int) (a : Int) (last : Bool) (w : World) (h : VotesAt w A n vs) (F : PF (M : Int) vs) (q : IntsAt w B l out) (hl : l ≤ 1048576) :
    Calls Tryz.prog 234 #[.agg #[.int .i64 (M : Int), .slice A n c], .slice B l d, .int .i64 a, .bool last] w fun e w' => e = .returned (.int .i64 (numO vs M out a last)) ∧ Below w.heap.size w w' := by
  obtain ⟨m, hm⟩ : ∃ m : Int, m = (M : Int) := ⟨_, rfl⟩
  rw [← hm] at F ⊢
  have q0 := q.below (alloc_below w (.cells #[.int .i64 m, .slice A n c] 24))
  obtain rfl := h.len
  have hB := alloc_below w (.cells #[.int .i64 m, .slice A vs.length c] 24)
  obtain ⟨x0, x1⟩ := PBox.new w m A vs.length c 24 rfl
  replace h := h.below hB
  generalize hw0 : w.alloc (.cells #[.int .i64 m, .slice A vs.length c] 24) = w0 at *
  have n24 := F.n
  have M5 : M ≤ 5 := by have := F.m5; omega
  subst hm
  unfold numO vts
  clear q
  go_enter Tryz.func234, Tryz.ntmps234
  go_wp2
  clear hw0 x1
  go_loopw [9, 11, 12, 13, 17] (fun s _ _ _ i wr => ∃ k : Nat, k ≤ vs.length ∧ i = .int .i64 k ∧ s = .int .i64 (vtsTo (okO M out a last) vs k) ∧ Below w0.heap.size w0 wr) (fun _ _ _ _ i _ => vs.length - (intOf i).toNat)
  case atStart => exact ⟨0, Nat.zero_le _, rfl, rfl, Below.refl _ _⟩
  case round =>
    obtain ⟨k, hk, rfl, rfl, hb⟩ := hrel
    obtain ⟨wo, rfl⟩ : ∃ wo, wo = wr := ⟨_, rfl⟩
    by_cases hlt : k < vs.length
    · obtain ⟨bb, o, A', c', rfl, hbl, hc1, hc2, hcc, hin⟩ := (h.below hb).at_ hlt
      have bd := vtsTo_bd (f := okO M out a last) F.c k (by omega)
      have vb := F.c _ (vx_mem hlt)
      have vl : (vx vs k).r.length ≤ 5 := by have := F.l _ (vx_mem hlt); have := F.m5; omega
      have HS : Hid (vtsTo (okO M out a last) vs (k + 1) = vtsTo (okO M out a last) vs k + (if okO M out a last (vx vs k).r then (vx vs k).c else 0)) := rfl
      generalize vx vs k = v at *
      generalize vtsTo (okO M out a last) vs k = s at *
      have b1 := alloc_below wo (.cells #[.slice A' v.r.length c', .int .i64 v.c] 44)
      obtain ⟨y0, y1⟩ := new_pair wo (.slice A' v.r.length c') (.int .i64 v.c) 44 rfl
      have hB2 := hb.trans (b1.mono hb.size)
      have hin2 := hin.below b1
      have q2 := q0.below hB2
      have x0' := cell_carry hB2 x0
      clear b1 hin hb
      generalize hw3 : wo.alloc (.cells #[.slice A' v.r.length c', .int .i64 v.c] 44) = w3 at *
      have HOK : Hid (okO M out a last v.r = allN (fun b => ((b : Int) == a || has out (b : Int)) || (pref v.r a (b : Int) != last)) M) := rfl
      generalize okO M out a last v.r = okv at *
      obtain ⟨pp, hpp⟩ : ∃ pp : Nat → Bool, (fun b : Nat => ((b : Int) == a || has out (b : Int)) || (pref v.r a (b : Int) != last)) = pp := ⟨_, rfl⟩
      have HPP : Hid (∀ b : Nat, pp b = (((b : Int) == a || has out (b : Int)) || (pref v.r a (b : Int) != last))) := fun b => by rw [← hpp]
      rw [hpp] at HOK
      clear hpp
      go_wp2
      clear hw3
      go_loopw [12, 13] (fun fd i wr => ∃ j : Nat, j ≤ M ∧ i = .int .i64 j ∧ fd = .bool (allN pp j) ∧ wr = w3) (fun _ i _ => M - (intOf i).toNat)
      case atStart => exact ⟨0, Nat.zero_le _, rfl, rfl, rfl⟩
      case round =>
        obtain ⟨j, hj, rfl, rfl, rfl⟩ := hrel
        by_cases hlj : j < M
        · have HJ : Hid (allN pp (j + 1) = (allN pp j && pp j)) := rfl
          have HPJ := Lib.hid (HPP.out j)
          have KO := Lib.hid (specOut B l d out (j : Int) _ q2 (by omega))
          have KP := Lib.hid (specPrefers A' v.r.length c' v.r a (j : Int) _ hin2 (by omega))
          have j1 : (j : Int) < (M : Int) := by omega
          generalize allN pp j = fq at *
          generalize pp j = pj at *
          by_cases hja : (j : Int) = a
          · have e0 : ((j : Int) == a) = true := by rw [beq_iff_eq]; exact hja
            have HN : Hid (allN pp (j + 1) = fq) := by show _ = _; rw [HJ.out, HPJ.out, e0]; simp
            clear hja KO KP
            go_wp2
            go_roundw
            case rel => exact ⟨j + 1, by omega, by go_num, by rw [HN.out], by trivial⟩
            case measure => simp [intOf]; omega
          · have e0 : ((j : Int) == a) = false := by rw [beq_eq_false_iff_ne]; exact hja
            clear hja
            cases ho : has out (j : Int)
            · rw [ho] at KO
              have HPJ2 : Hid (pj = (pref v.r a (j : Int) != last)) := by show _ = _; rw [HPJ.out, e0, ho]; simp
              generalize pref v.r a (j : Int) = pr at *
              clear HPJ ho
              cases fq
              · have HN : Hid (allN pp (j + 1) = false) := by show _ = _; rw [HJ.out]; rfl
                go_wp2_with fail
                (with_reducible refine KO.out.mono ?_)
                rintro e w5 ⟨rfl, rfl⟩
                go_wp2
                go_roundw
                case rel => exact ⟨j + 1, by omega, by go_num, by rw [HN.out], by trivial⟩
                case measure => simp [intOf]; omega
              · have HN : Hid (allN pp (j + 1) = (pr != last)) := by show _ = _; rw [HJ.out, HPJ2.out]; rfl
                go_wp2_with fail
                (with_reducible refine KO.out.mono ?_)
                rintro e w5 ⟨rfl, rfl⟩
                go_wp2_with fail
                (with_reducible refine KP.out.mono ?_)
                rintro e w5 ⟨rfl, rfl⟩
                go_wp2
                go_roundw
                case rel => exact ⟨j + 1, by omega, by go_num, by rw [HN.out]; cases pr <;> cases last <;> rfl, by trivial⟩
                case measure => simp [intOf]; omega
            · rw [ho] at KO
              have HN : Hid (allN pp (j + 1) = fq) := by show _ = _; rw [HJ.out, HPJ.out, ho]; simp
              clear ho KP HPJ
              go_wp2_with fail
              (with_reducible refine KO.out.mono ?_)
              rintro e w5 ⟨rfl, rfl⟩
              go_wp2
              go_roundw
              case rel => exact ⟨j + 1, by omega, by go_num, by rw [HN.out], by trivial⟩
              case measure => simp [intOf]; omega
        · obtain rfl : j = M := by omega
          rw [← HOK.out]
          cases okv
          · rw [if_neg (by simp), Int.add_zero] at HS
            go_wp2
            go_roundw
            case rel => exact ⟨k + 1, by omega, by go_num, by rw [HS.out], hB2⟩
            case measure => simp [intOf]; omega
          · rw [if_pos rfl] at HS
            go_wp2
            go_roundw
            case rel => exact ⟨k + 1, by omega, by go_num, by rw [HS.out], hB2⟩
            case measure => simp [intOf]; omega
    · obtain rfl : k = vs.length := by omega
      have hB2 := hB.trans (hb.mono hB.size)
      go_wp2
      go_ret
      exact ⟨rfl, hB2⟩
end Go.Proofs.YtaanppihgldeaaaGreatDoor
namespace Go.Proofs.YtaanppihgldeaaaGreatDoor
set_option linter.unusedSimpArgs false
set_option linter.unusedVariables false
set_option linter.unusedVariables false
open Go.RowKit

set_option maxRecDepth 100000 in
set_option maxHeartbeats 1000000 in
theorem specSum (M : Nat) (A : Option Addr) (n c : Nat) (vs : List Vt) (B : Option Addr) (l d : Nat) (out : List Int) (a : Int) (w : World) (h : VotesAt w A n vs) (F : PF (M : Int) vs) (q : IntsAt w B l out) (hl : l ≤ 1048576) :
    Calls Tryz.prog 235 #[.agg #[.int .i64 (M : Int), .slice A n c], .slice B l d, .int .i64 a] w fun e w' => e = .returned (.int .i64 (sumO vs out a M)) ∧ Below w.heap.size w w' := by
  obtain ⟨m, hm⟩ : ∃ m : Int, m = (M : Int) := ⟨_, rfl⟩
  rw [← hm] at F ⊢
  have q0 := q.below (alloc_below w (.cells #[.int .i64 m, .slice A n c] 24))
  obtain rfl := h.len
  have hB := alloc_below w (.cells #[.int .i64 m, .slice A vs.length c] 24)
  obtain ⟨x0, x1⟩ := PBox.new w m A vs.length c 24 rfl
  replace h := h.below hB
  generalize hw0 : w.alloc (.cells #[.int .i64 m, .slice A vs.length c] 24) = w0 at *
  have M5 : M ≤ 5 := by have := F.m5; omega
  subst hm
  clear q
  obtain ⟨T, hT⟩ : ∃ T, sumO vs out a M = T := ⟨_, rfl⟩
  have HT := Lib.hid hT
  rw [hT]
  clear hT
  go_enter Tryz.func235, Tryz.ntmps235
  go_wp2
  clear hw0
  go_loopw [7, 8] (fun s i wr => ∃ j : Nat, j ≤ M ∧ i = .int .i64 j ∧ s = .int .i64 (sumO vs out a j) ∧ Below w0.heap.size w0 wr) (fun _ i _ => M - (intOf i).toNat)
  case atStart => exact ⟨0, Nat.zero_le _, rfl, rfl, Below.refl _ _⟩
  case round =>
    obtain ⟨j, hj, rfl, rfl, hb⟩ := hrel
    have x0' := cell_carry hb x0
    have x1' := cell_carry hb x1
    by_cases hlj : j < M
    · have HJ : Hid (sumO vs out a (j + 1) = sumO vs out a j + (if (j : Int) != a && !has out (j : Int) then pairP vs a (j : Int) else 0)) := rfl
      have b1 := sumO_bd F out a j
      have b2 := pair_bd F a (j : Int)
      have KO := Lib.hid (specOut B l d out (j : Int) _ (q0.below hb) (by omega))
      have KP := Lib.hid (specPair (M : Int) A vs.length c vs a (j : Int) _ (h.below hb) F)
      have j1 : (j : Int) < (M : Int) := by omega
      generalize sumO vs out a j = s at *
      generalize pairP vs a (j : Int) = y at *
      by_cases hja : (j : Int) = a
      · have e0 : ((j : Int) != a) = false := by rw [bne_eq_false_iff_eq]; exact hja
        have HN : Hid (sumO vs out a (j + 1) = s) := by show _ = _; rw [HJ.out, e0]; simp
        clear hja KO KP
        go_wp2
        go_roundw
        case rel => exact ⟨j + 1, by omega, by go_num, by rw [HN.out], hb⟩
        case measure => simp [intOf]; omega
      · have e0 : ((j : Int) != a) = true := by rw [bne_iff_ne]; exact hja
        clear hja
        cases ho : has out (j : Int)
        · rw [ho] at KO
          have HN : Hid (sumO vs out a (j + 1) = s + y) := by show _ = _; rw [HJ.out, e0, ho]; simp
          clear ho
          go_wp2_with fail
          (with_reducible refine KO.out.mono ?_)
          rintro e w5 ⟨rfl, rfl⟩
          go_wp2_with fail
          (with_reducible refine KP.out.mono ?_)
          rintro e w6 ⟨rfl, b6⟩
          have hb6 := hb.trans (b6.mono hb.size)
          clear b6 KO KP hb
          go_wp2
          go_roundw
          case rel => exact ⟨j + 1, by omega, by go_num, by rw [HN.out], hb6⟩
          case measure => simp [intOf]; omega
        · rw [ho] at KO
          have HN : Hid (sumO vs out a (j + 1) = s) := by show _ = _; rw [HJ.out, e0, ho]; simp
          clear ho KP
          go_wp2_with fail
          (with_reducible refine KO.out.mono ?_)
          rintro e w5 ⟨rfl, rfl⟩
          go_wp2
          go_roundw
          case rel => exact ⟨j + 1, by omega, by go_num, by rw [HN.out], hb⟩
          case measure => simp [intOf]; omega
    · obtain rfl : j = M := by omega
      rw [HT.out]
      have hB2 := hB.trans (hb.mono hB.size)
      go_wp2
      go_ret
      exact ⟨rfl, hB2⟩
theorem badK_bd {M : Nat} {vs : List Vt} (F : PF (M : Int) vs) (kind : Int) (out : List Int) (a : Int) : -24000 ≤ badK vs M kind out a ∧ badK vs M kind out a ≤ 120000 := by
  unfold badK
  have h1 := numO_bd F M out a false
  have h2 := numO_bd F M out a true
  have h3 := sumO_bd F out a M
  have := F.m5
  split
  · omega
  · split <;> omega
theorem specBad (M : Nat) (kind : Int) (hk : kind = 0 ∨ kind = 1 ∨ kind = 2) (A : Option Addr) (n c : Nat) (vs : List Vt) (B : Option Addr) (l d : Nat) (out : List Int) (a : Int) (w : World) (h : VotesAt w A n vs) (F : PF (M : Int) vs) (q : IntsAt w B l out) (hl : l ≤ 1048576) :
    Calls Tryz.prog 213 #[.agg #[.int .i64 (M : Int), .slice A n c], .slice B l d, .int .i64 a, .int .i64 kind] w fun e w' => e = .returned (.int .i64 (badK vs M kind out a)) ∧ Below w.heap.size w w' := by
  obtain ⟨m, hm⟩ : ∃ m : Int, m = (M : Int) := ⟨_, rfl⟩
  rw [← hm] at F ⊢
  have q0 := q.below (alloc_below w (.cells #[.int .i64 m, .slice A n c] 24))
  obtain rfl := h.len
  have hB := alloc_below w (.cells #[.int .i64 m, .slice A vs.length c] 24)
  obtain ⟨x0, x1⟩ := PBox.new w m A vs.length c 24 rfl
  replace h := h.below hB
  generalize hw0 : w.alloc (.cells #[.int .i64 m, .slice A vs.length c] 24) = w0 at *
  subst hm
  clear q
  have K1 := Lib.hid (fun last => specNumber M A vs.length c vs B l d out a last w0 h F q0 hl)
  have K2 := Lib.hid (specSum M A vs.length c vs B l d out a w0 h F q0 hl)
  have b1 := numO_bd F M out a true
  unfold badK
  rcases hk with rfl | rfl | rfl
  · rw [if_pos rfl]
    go_enter Tryz.func213, Tryz.ntmps213
    go_wp2_with fail
    (with_reducible refine (K1.out false).mono ?_)
    rintro e w1 ⟨rfl, b1⟩
    replace hB := hB.trans (b1.mono hB.size)
    clear b1
    go_wp2
    go_ret
    exact ⟨rfl, hB⟩
  · rw [if_neg (by omega), if_pos rfl]
    have K3 := Lib.hid (K1.out true)
    generalize numO vs M out a true = y at *
    have ew : IntKind.i64.wrap (-y) = -y := IntWalk.i64_in _ (by omega)
    go_enter Tryz.func213, Tryz.ntmps213
    go_wp2_with fail
    (with_reducible refine (K3.out).mono ?_)
    rintro e w1 ⟨rfl, b1⟩
    replace hB := hB.trans (b1.mono hB.size)
    clear b1
    go_wp2
    go_ret
    exact ⟨rfl, hB⟩
  · rw [if_neg (by omega), if_neg (by omega)]
    go_enter Tryz.func213, Tryz.ntmps213
    go_wp2_with fail
    (with_reducible refine (K2.out).mono ?_)
    rintro e w1 ⟨rfl, b1⟩
    replace hB := hB.trans (b1.mono hB.size)
    clear b1
    go_wp2
    go_ret
    exact ⟨rfl, hB⟩
theorem leftO_pos {M : Nat} {out : List Int} (hn : out.Nodup) (hr : ∀ x ∈ out, 0 ≤ x ∧ x < (M : Int)) (hl : out.length < M) : 0 < (leftO M out).length := by
  rcases Nat.eq_zero_or_pos (leftO M out).length with h0 | h0
  · exfalso
    have hsub : upE M ⊆ out := fun x hx => by
      by_cases h : x ∈ out
      · exact h
      · obtain ⟨j, hj, rfl⟩ := upE_mem hx
        have := leftO_in (M := M) (out := out) (x := (j : Int)) (by omega) (by omega) h
        rw [List.eq_nil_of_length_eq_zero h0] at this
        simp at this
    have h1 := perm_of out (upE M) hn (fun x hx => by
      have := hr x hx
      unfold upE
      exact List.mem_map.2 ⟨x.toNat, List.mem_range.2 (by omega), by omega⟩) 
    by_cases h2 : (upE M).length ≤ out.length
    · rw [upE_len] at h2; omega
    · have h3 : (upE M).Nodup := upE_nodup M
      have := perm_of (upE M) out h3 hsub (by rw [upE_len]; omega)
      have := this.length_eq
      rw [upE_len] at this
      omega
  · exact h0
set_option maxRecDepth 100000 in
set_option maxHeartbeats 2000000 in
theorem specOrder (M : Nat) (kind : Int) (hk : kind = 0 ∨ kind = 1 ∨ kind = 2) (A : Option Addr) (n c : Nat) (vs : List Vt) (w : World) (h : VotesAt w A n vs) (hp : profOk (M : Int) vs = true) :
    Calls Tryz.prog 186 #[.agg #[.int .i64 (M : Int), .slice A n c], .int .i64 kind] w fun e w' => ∃ A' c', e = .returned (.slice A' M c') ∧ OwnI w' w.heap.size w'.heap.size (.slice A' M c') (ordF (badK vs M kind) M M []) ∧ Below w.heap.size w w' := by
  obtain ⟨m, hm⟩ : ∃ m : Int, m = (M : Int) := ⟨_, rfl⟩
  rw [← hm] at hp ⊢
  obtain rfl := h.len
  have hB := alloc_below w (.cells #[.int .i64 m, .slice A vs.length c] 24)
  obtain ⟨x0, x1⟩ := PBox.new w m A vs.length c 24 rfl
  replace h := h.below hB
  generalize hw0 : w.alloc (.cells #[.int .i64 m, .slice A vs.length c] 24) = w0 at *
  have F := pf_of hp
  have n24 := F.n
  have K := Lib.hid (specProfileOk m A vs.length c vs w0 h (by omega) (fun v hv => by have := F.l v hv; have := F.m5; omega))
  rw [hp] at K
  have M5 : M ≤ 5 := by have := F.m5; omega
  subst hm
  have KB := Lib.hid (fun B l d out a W hW q hl => specBad M kind hk A vs.length c vs B l d out a W hW F q hl)
  clear hp hk n24
  generalize badK vs M kind = bf at *
  obtain ⟨T, hT⟩ : ∃ T, ordF bf M M [] = T := ⟨_, rfl⟩
  have HT := Lib.hid hT
  have tl : T.length = M := by rw [← hT, ordF_len]; simp
  rw [hT]
  clear hT
  go_enter Tryz.func186, Tryz.ntmps186
  go_wp2_with fail
  (with_reducible refine (K.out).mono ?_)
  rintro e w1 ⟨rfl, b1⟩
  replace x0 := cell_carry b1 x0
  replace x1 := cell_carry b1 x1
  replace h := h.below b1
  replace hB := hB.trans (b1.mono hB.size)
  clear b1
  clear K hw0
  have b3 := alloc_below w1 (.cells #[] 3)
  have o3 := OwnI.empty w1 (lo := w1.heap.size) (hi := (w1.alloc (.cells #[] 3)).heap.size) (Nat.le_refl _) (by simp)
  go_wp2
  go_loopw [5, 6, 7] (fun v _ _ wr => ∃ (out : List Int) (A' : Option Addr) (c' : Nat), out.length ≤ M ∧ Hid (ordF bf M (M - out.length) out = T) ∧ Hid (out.Nodup ∧ ∀ x ∈ out, 0 ≤ x ∧ x < (M : Int)) ∧ v = .slice A' out.length c' ∧ OwnI wr w1.heap.size wr.heap.size (.slice A' out.length c') out ∧ Below w1.heap.size w1 wr) (fun v _ _ _ => M - lenOf v)
  case atStart => exact ⟨[], _, 0, by simp, HT.out, ⟨by simp, fun x hx => by simp at hx⟩, rfl, o3, b3⟩
  case round =>
    clear o3 b3
    obtain ⟨out, A1, c1, hol, HO, HN, rfl, ho, hb⟩ := hrel
    obtain ⟨wo, rfl⟩ : ∃ wo, wo = wr := ⟨_, rfl⟩
    have x0' := cell_carry hb x0
    by_cases hlt : out.length < M
    · have wpos := Lib.hid (worstO_pos (bf := bf) (leftO_pos HN.out.1 HN.out.2 hlt))
      have wbd := Lib.hid (worstO_bd bf out)
      have l1 : (out.length : Int) < (M : Int) := by omega
      go_wp2
      clear x0'
      go_loopw [6, 7] (fun v i wr => ∃ j : Nat, j ≤ M ∧ i = .int .i64 j ∧ v = .int .i64 (worstO bf out j) ∧ Below wo.heap.size wo wr) (fun _ i _ => M - (intOf i).toNat)
      case atStart => exact ⟨0, Nat.zero_le _, rfl, rfl, Below.refl _ _⟩
      case round =>
        obtain ⟨j, hj, rfl, rfl, hbj⟩ := hrel
        have hbb := hb.trans (hbj.mono hb.size)
        have x0' := cell_carry hbb x0
        have x1' := cell_carry hbb x1
        by_cases hlj : j < M
        · have HS : Hid (worstO bf out (j + 1) = if !has out (j : Int) && (decide (worstO bf out j < 0) || decide (bf out (j : Int) ≤ bf out (worstO bf out j))) then (j : Int) else worstO bf out j) := rfl
          have wj := wbd.out j
          have hat := (ho.belowW hbj).at_
          have hvj := h.below hbb
          have K0 := Lib.hid (fun (L : Later wr) => L.call_same (specOut A1 out.length c1 out (j : Int) L.W (hat.below L.h) (by omega)))
          have K1 := Lib.hid (fun (L : Later wr) => L.call (KB.out A1 out.length c1 out (j : Int) L.W (hvj.below L.h) (hat.below L.h) (by omega)))
          have K2 := Lib.hid (fun (L : Later wr) => L.call (KB.out A1 out.length c1 out (worstO bf out j) L.W (hvj.below L.h) (hat.below L.h) (by omega)))
          have q0 : ∀ L : Later wr, L.W.cell? ⟨w.heap.size, 0, none⟩ = some (.int .i64 (M : Int)) := fun L => L.cell x0'
          have q1 : ∀ L : Later wr, L.W.cell? ⟨w.heap.size, 1, none⟩ = some (.slice A vs.length c) := fun L => L.cell x1'
          have j1 : (j : Int) < (M : Int) := by omega
          generalize worstO bf out j = wv at *
          generalize bf out (j : Int) = f1 at *
          generalize bf out wv = f2 at *
          generalize has out (j : Int) = hh at *
          clear hat hvj
          cases hh
          · by_cases hw0 : wv < 0
            · have t0 : decide (wv < 0) = true := decide_eq_true hw0
              rw [t0, if_pos (by simp)] at HS
              clear hw0
              go_wp2
              refine wp_region_later (by kernel_rfl) (by kernel_rfl) ?_
              repeat (go_big_quiet_step (first | (with_reducible exact K0.out _) | (with_reducible exact K1.out _) | (with_reducible exact K2.out _)))
              (refine wpQuiet_nil ?_; rintro wl ⟨L_, hwl_⟩; have hbl := L_.h; rw [← hwl_] at hbl; clear hwl_ L_)
              have hb9 := hbj.trans (hbl.mono hbj.size)
              clear K0 K1 K2 q0 q1 x0' x1' hbl
              go_wp2
              go_roundw
              case rel => exact ⟨j + 1, by omega, by go_num, by rw [HS.out], hb9⟩
              case measure => simp [intOf]; omega
            · have t0 : decide (wv < 0) = false := decide_eq_false hw0
              by_cases hle : f1 ≤ f2
              · have t1 : decide (f1 ≤ f2) = true := decide_eq_true hle
                rw [t0, t1, if_pos (by simp)] at HS
                clear hw0 hle
                go_wp2
                refine wp_region_later (by kernel_rfl) (by kernel_rfl) ?_
                repeat (go_big_quiet_step (first | (with_reducible exact K0.out _) | (with_reducible exact K1.out _) | (with_reducible exact K2.out _)))
                (refine wpQuiet_nil ?_; rintro wl ⟨L_, hwl_⟩; have hbl := L_.h; rw [← hwl_] at hbl; clear hwl_ L_)
                have hb9 := hbj.trans (hbl.mono hbj.size)
                clear K0 K1 K2 q0 q1 x0' x1' hbl
                go_wp2
                go_roundw
                case rel => exact ⟨j + 1, by omega, by go_num, by rw [HS.out], hb9⟩
                case measure => simp [intOf]; omega
              · have t1 : decide (f1 ≤ f2) = false := decide_eq_false hle
                rw [t0, t1, if_neg (by simp)] at HS
                clear hw0 hle
                go_wp2
                refine wp_region_later (by kernel_rfl) (by kernel_rfl) ?_
                repeat (go_big_quiet_step (first | (with_reducible exact K0.out _) | (with_reducible exact K1.out _) | (with_reducible exact K2.out _)))
                (refine wpQuiet_nil ?_; rintro wl ⟨L_, hwl_⟩; have hbl := L_.h; rw [← hwl_] at hbl; clear hwl_ L_)
                have hb9 := hbj.trans (hbl.mono hbj.size)
                clear K0 K1 K2 q0 q1 x0' x1' hbl
                go_wp2
                go_roundw
                case rel => exact ⟨j + 1, by omega, by go_num, by rw [HS.out], hb9⟩
                case measure => simp [intOf]; omega
          · rw [if_neg (by simp)] at HS
            go_wp2
            refine wp_region_later (by kernel_rfl) (by kernel_rfl) ?_
            repeat (go_big_quiet_step (first | (with_reducible exact K0.out _) | (with_reducible exact K1.out _) | (with_reducible exact K2.out _)))
            (refine wpQuiet_nil ?_; rintro wl ⟨L_, hwl_⟩; have hbl := L_.h; rw [← hwl_] at hbl; clear hwl_ L_)
            have hb9 := hbj.trans (hbl.mono hbj.size)
            clear K0 K1 K2 q0 q1 x0' x1' hbl
            go_wp2
            go_roundw
            case rel => exact ⟨j + 1, by omega, by go_num, by rw [HS.out], hb9⟩
            case measure => simp [intOf]; omega
        · obtain rfl : j = M := by omega
          have z5 := hbb.size
          have zj := hbj.size
          have ho2 := (ho.belowW hbj).mono (Nat.le_refl _) zj
          have wj := wbd.out j
          have wp := wpos.out.1
          have HOR : Hid (ordF bf j (j - (out.length + 1)) (out ++ [worstO bf out j]) = T) := by
            show _ = _
            have h1 := HO.out
            rw [show j - out.length = (j - (out.length + 1)) + 1 by omega, ordF] at h1
            exact h1
          have HNN : Hid ((out ++ [worstO bf out j]).Nodup ∧ ∀ x ∈ out ++ [worstO bf out j], 0 ≤ x ∧ x < (j : Int)) := by
            refine ⟨?_, fun x hx => ?_⟩
            · rw [List.nodup_append]
              exact ⟨HN.out.1, by simp, fun a ha b hb e => by simp at hb; subst hb; subst e; exact wpos.out.2 ha⟩
            · rw [List.mem_append, List.mem_singleton] at hx
              rcases hx with hx | rfl
              · exact HN.out.2 x hx
              · exact ⟨wp, wj.2⟩
          generalize worstO bf out j = wv at *
          clear ho hbj x1' wpos wbd
          go_wp2_with (at_builtin; refine wpList_append_int _ rfl _ _ rfl (w1.heap.size) _ (out.length) _ _ _ rfl (ho2.alloc _) (wv) _ 1 rfl (new_cell _ _ _ rfl) (by omega) (by simp; omega) (by simp; omega) ?_)
          intro A4 c4 w4 o4 on4
          have hb4 := (hbb.alloc z5 (.cells #[.int .i64 wv] 3)).trans (on4.toBelow (Nat.le_refl _) (by simp; omega))
          have el : out.length + 1 = (out ++ [wv]).length := by simp
          rw [el] at o4
          have EL := Lib.hid el
          clear on4 ho2 hbb el
          go_wp2
          go_roundw
          case rel => exact ⟨out ++ [wv], A4, c4, by rw [← EL.out]; omega, by rw [← EL.out]; exact HOR, HNN, by rw [← EL.out], o4, hb4⟩
          case measure => simp [lenOf]; omega
    · have e : out.length = M := by omega
      have e2 : out = T := by have := HO.out; rw [show M - out.length = 0 by omega, ordF] at this; exact this
      have hB2 := hB.trans (hb.mono hB.size)
      have z5 := hB.size
      have HO2 : Hid (OwnI wo w.heap.size wo.heap.size (.slice A1 M c1) T) := by have := ho.mono z5 (Nat.le_refl _); rw [e, e2] at this; exact this
      have HE := Lib.hid e
      clear ho e e2 hol
      go_wp2
      go_ret
      rw [HE.out]
      exact ⟨A1, c1, rfl, HO2.out, hB2⟩
theorem specInstant (m : Int) (A : Option Addr) (n c : Nat) (vs : List Vt) (w : World) (h : VotesAt w A n vs) (hp : profOk m vs = true) :
    Calls Tryz.prog 137 #[.agg #[.int .i64 m, .slice A n c]] w fun e w' => ∃ A' c', e = .returned (.slice A' (elimR (instF vs) m vs).length c') ∧ OwnI w' w.heap.size w'.heap.size (.slice A' (elimR (instF vs) m vs).length c') (elimR (instF vs) m vs) ∧ Below w.heap.size w w' := by
  obtain rfl := h.len
  have hB := alloc_below w (.cells #[.int .i64 m, .slice A vs.length c] 24)
  obtain ⟨x0, x1⟩ := PBox.new w m A vs.length c 24 rfl
  replace h := h.below hB
  generalize hw0 : w.alloc (.cells #[.int .i64 m, .slice A vs.length c] 24) = w0 at *
  have F := pf_of hp
  obtain ⟨M, rfl⟩ : ∃ M : Nat, m = (M : Int) := ⟨m.toNat, by have := F.m1; omega⟩
  have e : elimR (instF vs) (M : Int) vs = ordF (badK vs M 0) M M [] := by unfold elimR; rw [hp, if_pos rfl]; exact inst_ord F
  have K := Lib.hid (specOrder M 0 (by omega) A vs.length c vs w0 h hp)
  rw [e, ordF_len, List.length_nil, Nat.zero_add]
  generalize ordF (badK vs M 0) M M [] = T at *
  clear F hp e
  go_enter Tryz.func137, Tryz.ntmps137
  go_wp2_with fail
  (with_reducible refine K.out.mono ?_)
  rintro e w1 ⟨A1, c1, rfl, o1, b1⟩
  go_wp2
  go_ret
  exact ⟨_, _, rfl, o1.mono hB.size (Nat.le_refl _), hB.trans (b1.mono hB.size)⟩
theorem specCoombs (m : Int) (A : Option Addr) (n c : Nat) (vs : List Vt) (w : World) (h : VotesAt w A n vs) (hp : profOk m vs = true) :
    Calls Tryz.prog 138 #[.agg #[.int .i64 m, .slice A n c]] w fun e w' => ∃ A' c', e = .returned (.slice A' (elimR (coomF vs) m vs).length c') ∧ OwnI w' w.heap.size w'.heap.size (.slice A' (elimR (coomF vs) m vs).length c') (elimR (coomF vs) m vs) ∧ Below w.heap.size w w' := by
  obtain rfl := h.len
  have hB := alloc_below w (.cells #[.int .i64 m, .slice A vs.length c] 24)
  obtain ⟨x0, x1⟩ := PBox.new w m A vs.length c 24 rfl
  replace h := h.below hB
  generalize hw0 : w.alloc (.cells #[.int .i64 m, .slice A vs.length c] 24) = w0 at *
  have F := pf_of hp
  obtain ⟨M, rfl⟩ : ∃ M : Nat, m = (M : Int) := ⟨m.toNat, by have := F.m1; omega⟩
  have e : elimR (coomF vs) (M : Int) vs = ordF (badK vs M 1) M M [] := by unfold elimR; rw [hp, if_pos rfl]; exact coom_ord
  have K := Lib.hid (specOrder M 1 (by omega) A vs.length c vs w0 h hp)
  rw [e, ordF_len, List.length_nil, Nat.zero_add]
  generalize ordF (badK vs M 1) M M [] = T at *
  clear F hp e
  go_enter Tryz.func138, Tryz.ntmps138
  go_wp2_with fail
  (with_reducible refine K.out.mono ?_)
  rintro e w1 ⟨A1, c1, rfl, o1, b1⟩
  go_wp2
  go_ret
  exact ⟨_, _, rfl, o1.mono hB.size (Nat.le_refl _), hB.trans (b1.mono hB.size)⟩
theorem specBaldwin (m : Int) (A : Option Addr) (n c : Nat) (vs : List Vt) (w : World) (h : VotesAt w A n vs) (hp : profOk m vs = true) :
    Calls Tryz.prog 139 #[.agg #[.int .i64 m, .slice A n c]] w fun e w' => ∃ A' c', e = .returned (.slice A' (elimR (baldN vs) m vs).length c') ∧ OwnI w' w.heap.size w'.heap.size (.slice A' (elimR (baldN vs) m vs).length c') (elimR (baldN vs) m vs) ∧ Below w.heap.size w w' := by
  obtain rfl := h.len
  have hB := alloc_below w (.cells #[.int .i64 m, .slice A vs.length c] 24)
  obtain ⟨x0, x1⟩ := PBox.new w m A vs.length c 24 rfl
  replace h := h.below hB
  generalize hw0 : w.alloc (.cells #[.int .i64 m, .slice A vs.length c] 24) = w0 at *
  have F := pf_of hp
  obtain ⟨M, rfl⟩ : ∃ M : Nat, m = (M : Int) := ⟨m.toNat, by have := F.m1; omega⟩
  have e : elimR (baldN vs) (M : Int) vs = ordF (badK vs M 2) M M [] := by unfold elimR; rw [hp, if_pos rfl]; exact bald_ord
  have K := Lib.hid (specOrder M 2 (by omega) A vs.length c vs w0 h hp)
  rw [e, ordF_len, List.length_nil, Nat.zero_add]
  generalize ordF (badK vs M 2) M M [] = T at *
  clear F hp e
  go_enter Tryz.func139, Tryz.ntmps139
  go_wp2_with fail
  (with_reducible refine K.out.mono ?_)
  rintro e w1 ⟨A1, c1, rfl, o1, b1⟩
  go_wp2
  go_ret
  exact ⟨_, _, rfl, o1.mono hB.size (Nat.le_refl _), hB.trans (b1.mono hB.size)⟩
end Go.Proofs.YtaanppihgldeaaaGreatDoor
