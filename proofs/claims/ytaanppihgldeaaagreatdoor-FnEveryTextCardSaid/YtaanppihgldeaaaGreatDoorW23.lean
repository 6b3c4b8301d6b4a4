/- CopelandScores, MaximinScores, the reference's side. Pairs by margin: what the reference's insertion gives, plain. -/
import Derived.Test.YtaanppihgldeaaaGreatDoorW22
import Derived.Deep.RegionLaw
import Derived.Test.YtaanppihgldeaaaGreatDoorW15
import Derived.Test.YtaanppihgldeaaaGreatDoorW05
namespace Go.Proofs.YtaanppihgldeaaaGreatDoor
set_option linter.unusedSimpArgs false
set_option linter.unusedVariables false
set_option linter.unusedVariables false
open Go.RowKit

theorem lfn_succ (f : Nat → Int) (k : Nat) : lfn f (k + 1) = lfn f k ++ [f k] := by unfold lfn; rw [List.range_succ, List.map_append]; rfl
set_option maxRecDepth 100000 in
set_option maxHeartbeats 1000000 in
theorem specCopeland (m : Int) (A : Option Addr) (n c : Nat) (vs : List Vt) (w : World) (h : VotesAt w A n vs) (hn : n ≤ 1048576) (hx : ∀ v ∈ vs, v.r.length ≤ 1048576) :
    Calls Tryz.prog 133 #[.agg #[.int .i64 m, .slice A n c]] w fun e w' => ∃ A' c', e = .returned (.slice A' (copelandR m vs).length c') ∧ OwnI w' w.heap.size w'.heap.size (.slice A' (copelandR m vs).length c') (copelandR m vs) ∧ Below w.heap.size w w' := by
  obtain rfl := h.len
  have hB := alloc_below w (.cells #[.int .i64 m, .slice A vs.length c] 24)
  obtain ⟨x0, x1⟩ := PBox.new w m A vs.length c 24 rfl
  replace h := h.below hB
  generalize hw0 : w.alloc (.cells #[.int .i64 m, .slice A vs.length c] 24) = w0 at *
  have K := Lib.hid (specProfileOk m A vs.length c vs _ h hn hx)
  unfold copelandR
  clear hx
  cases hp : profOk m vs
  · rw [hp] at K
    simp only [Bool.false_eq_true, if_false, List.length_nil]
    go_enter Tryz.func133, Tryz.ntmps133
    go_wp2_with fail
    (with_reducible refine (K.out).mono ?_)
    rintro e w1 ⟨rfl, b1⟩
    replace hB := hB.trans (b1.mono hB.size)
    clear b1
    go_wp2
    go_ret
    exact ⟨_, _, rfl, OwnI.nil _ _ _, hB⟩
  rw [hp] at K
  have F := pf_of hp
  simp only [if_true]
  obtain ⟨M, rfl⟩ : ∃ M : Nat, m = (M : Int) := ⟨m.toNat, by have := F.m1; omega⟩
  have M5 : M ≤ 5 := by have := F.m5; omega
  unfold copeland
  rw [Int.toNat_natCast, lfn_len]
  have KS := Lib.hid (fun W hW => specSums M A vs.length c vs W hW F)
  have HC := Lib.hid (fun a => (show sumN (copF vs a) M = sumN (btF vs a) M - sumN (fun x => btF vs x a) M by rw [← sumN_sub]; exact sumN_congr fun i _ => cop_bt vs a i))
  have B1 := Lib.hid (fun a => sumN_bd (lo := 0) (hi := 1) (fun b => btF_bd vs a b) M)
  have B2 := Lib.hid (fun a => sumN_bd (lo := 0) (hi := 1) (fun x => btF_bd vs x a) M)
  obtain ⟨T, hT⟩ : ∃ T, lfn (fun a => sumN (copF vs a) M) M = T := ⟨_, rfl⟩
  rw [hT]
  have HT := Lib.hid hT
  clear hT hp F
  go_enter Tryz.func133, Tryz.ntmps133
  go_wp2_with fail
  (with_reducible refine (K.out).mono ?_)
  rintro e w1 ⟨rfl, b1⟩
  replace x0 := cell_carry b1 x0
  replace x1 := cell_carry b1 x1
  replace h := h.below b1
  replace hB := hB.trans (b1.mono hB.size)
  clear b1
  clear K hw0
  go_wp2_with fail
  (with_reducible refine (KS.out _ h).mono ?_)
  rintro e w2 ⟨g1, g2, rfl, o1, o2, q1, q2, b2⟩
  have s1 := hB.size
  replace hB := hB.trans (b2.mono hB.size)
  clear b2 KS x0 x1 h
  have b3 := alloc_below w2 (.cells #[] 3)
  have o3 := OwnI.empty w2 (lo := w2.heap.size) (hi := (w2.alloc (.cells #[] 3)).heap.size) (Nat.le_refl _) (by simp)
  have hg1 : 0 < M → g1 < w2.heap.size := fun h0 => cell_lt (o1.cellAt 0 h0)
  have hg2 : 0 < M → g2 < w2.heap.size := fun h0 => cell_lt (o2.cellAt 0 h0)
  go_wp2
  go_loopw [5, 6, 18] (fun v _ i wr => ∃ (k : Nat) (A' : Option Addr) (c' : Nat), k ≤ M ∧ i = .int .i64 k ∧ v = .slice A' k c' ∧ OwnI wr w2.heap.size wr.heap.size (.slice A' k c') (lfn (fun a => sumN (copF vs a) M) k) ∧ Below w2.heap.size w2 wr) (fun _ _ i _ => M - (intOf i).toNat)
  case atStart => exact ⟨0, _, 0, Nat.zero_le _, rfl, rfl, o3, b3⟩
  case round =>
    clear o3 b3
    obtain ⟨k, A1, c1, hk, rfl, rfl, ho, hb⟩ := hrel
    have z2 := hb.size
    by_cases hlt : k < M
    · have d1 := cell_carry hb (o1.cellAt k hlt)
      have d2 := cell_carry hb (o2.cellAt k hlt)
      rw [lfn_ix hlt] at d1 d2
      have HS : Hid (lfn (fun a => sumN (copF vs a) M) (k + 1) = lfn (fun a => sumN (copF vs a) M) k ++ [sumN (btF vs k) M - sumN (fun x => btF vs x k) M]) := by
        show _ = _
        rw [lfn_succ]; congr 2; exact HC.out k
      have p1 := B1.out k
      have p2 := B2.out k
      generalize lfn (fun a => sumN (copF vs a) M) k = xs at *
      generalize sumN (btF vs k) M = X at *
      generalize sumN (fun x => btF vs x k) M = Y at *
      have i1 : (k : Int) < (M : Int) := by omega
      have ew : IntKind.i64.wrap (X - Y) = X - Y := IntWalk.i64_in _ (by omega)
      have hod : OwnI wr.drew w2.heap.size wr.heap.size (.slice A1 k c1) xs := ho
      have hsd : w2.heap.size ≤ wr.drew.heap.size := z2
      have hbd := hb.drew
      clear ho
      go_wp2
      go_region_law (refine step_append_int _ (by rfl) _ _ (by rfl) w2.heap.size wr.heap.size k c1 A1 xs (by rfl) (hod.alloc _) (X - Y) _ 1 (by rfl) (new_cell _ _ _ rfl) (by omega) (by simp; omega) ?_; intro A5 c5 w5 ho5 hon5 hat5)
      all_goals
        have hb5 := (hbd.alloc hsd (.cells #[.int .i64 (X - Y)] 3)).trans (hon5.toBelow (Nat.le_refl _) (by simp; omega))
        clear hon5 hat5
        go_wp2
        go_roundw
        case rel => exact ⟨k + 1, A5, c5, by omega, by go_num, rfl, by rw [HS.out]; exact ho5, hb5⟩
        case measure => simp [intOf]; omega
    · obtain rfl : k = M := by omega
      rw [HT.out] at ho
      have hB5 := hB.trans (hb.mono hB.size)
      have z5 := hB.size
      go_wp2
      go_ret
      exact ⟨_, _, rfl, ho.mono z5 (Nat.le_refl _), hB5⟩
set_option maxRecDepth 100000 in
set_option maxHeartbeats 1000000 in
theorem specMaximin (m : Int) (A : Option Addr) (n c : Nat) (vs : List Vt) (w : World) (h : VotesAt w A n vs) (hn : n ≤ 1048576) (hx : ∀ v ∈ vs, v.r.length ≤ 1048576) :
    Calls Tryz.prog 134 #[.agg #[.int .i64 m, .slice A n c]] w fun e w' => ∃ A' c', e = .returned (.slice A' (maximinR m vs).length c') ∧ OwnI w' w.heap.size w'.heap.size (.slice A' (maximinR m vs).length c') (maximinR m vs) ∧ Below w.heap.size w w' := by
  obtain rfl := h.len
  have hB := alloc_below w (.cells #[.int .i64 m, .slice A vs.length c] 24)
  obtain ⟨x0, x1⟩ := PBox.new w m A vs.length c 24 rfl
  replace h := h.below hB
  generalize hw0 : w.alloc (.cells #[.int .i64 m, .slice A vs.length c] 24) = w0 at *
  have K := Lib.hid (specProfileOk m A vs.length c vs _ h hn hx)
  unfold maximinR
  clear hx
  cases hp : profOk m vs
  · rw [hp] at K
    simp only [Bool.false_eq_true, if_false, List.length_nil]
    go_enter Tryz.func134, Tryz.ntmps134
    go_wp2_with fail
    (with_reducible refine (K.out).mono ?_)
    rintro e w1 ⟨rfl, b1⟩
    replace hB := hB.trans (b1.mono hB.size)
    clear b1
    go_wp2
    go_ret
    exact ⟨_, _, rfl, OwnI.nil _ _ _, hB⟩
  rw [hp] at K
  have F := pf_of hp
  simp only [if_true]
  obtain ⟨M, rfl⟩ : ∃ M : Nat, m = (M : Int) := ⟨m.toNat, by have := F.m1; omega⟩
  have M5 : M ≤ 5 := by have := F.m5; omega
  unfold maximin
  rw [Int.toNat_natCast, lfn_len]
  have KV := Lib.hid (fun W hW => specVoters (M : Int) A vs.length c vs W hW F.n F.c)
  have KP := Lib.hid (fun a b W hW => specPair (M : Int) A vs.length c vs a b W hW F)
  obtain ⟨V, hV⟩ : ∃ V, votersP vs = V := ⟨_, rfl⟩
  rw [hV] at KV
  rw [hV]
  obtain ⟨T, hT⟩ : ∃ T, lfn (fun a => minN (maxmF vs a) a V M) M = T := ⟨_, rfl⟩
  rw [hT]
  have HT := Lib.hid hT
  clear hT hp F hV
  have b3 := alloc_below
  go_enter Tryz.func134, Tryz.ntmps134
  go_wp2_with fail
  (with_reducible refine (K.out).mono ?_)
  rintro e w1 ⟨rfl, b1⟩
  replace x0 := cell_carry b1 x0
  replace x1 := cell_carry b1 x1
  replace h := h.below b1
  replace hB := hB.trans (b1.mono hB.size)
  clear b1
  clear K hw0 b3
  have b3 := alloc_below w1 (.cells #[] 3)
  have o3 := OwnI.empty w1 (lo := w1.heap.size) (hi := (w1.alloc (.cells #[] 3)).heap.size) (Nat.le_refl _) (by simp)
  go_wp2
  go_loopw [3, 4, 5, 6] (fun v i _ _ wr => ∃ (k : Nat) (A' : Option Addr) (c' : Nat), k ≤ M ∧ i = .int .i64 k ∧ v = .slice A' k c' ∧ OwnI wr w1.heap.size wr.heap.size (.slice A' k c') (lfn (fun a => minN (maxmF vs a) a V M) k) ∧ Below w1.heap.size w1 wr) (fun _ i _ _ _ => M - (intOf i).toNat)
  case atStart => exact ⟨0, _, 0, Nat.zero_le _, rfl, rfl, o3, b3⟩
  case round =>
    clear o3 b3
    obtain ⟨k, A1, c1, hk, rfl, rfl, ho, hb⟩ := hrel
    obtain ⟨wo, rfl⟩ : ∃ wo, wo = wr := ⟨_, rfl⟩
    have z2 := hb.size
    have x0' := cell_carry hb x0
    have x1' := cell_carry hb x1
    by_cases hlt : k < M
    · have HS : Hid (lfn (fun a => minN (maxmF vs a) a V M) (k + 1) = lfn (fun a => minN (maxmF vs a) a V M) k ++ [minN (maxmF vs k) k V M]) := lfn_succ _ _
      generalize lfn (fun a => minN (maxmF vs a) a V M) k = xs at *
      have KV1 := Lib.hid (KV.out _ (h.below hb))
      have i1 : (k : Int) < (M : Int) := by omega
      go_wp2_with fail
      (with_reducible refine KV1.out.mono ?_)
      rintro e w3 ⟨rfl, b3⟩
      have z3 := b3.size
      have ho3 := (ho.belowW b3).mono (Nat.le_refl _) z3
      have hb3 := hb.trans (b3.mono hb.size)
      clear b3 KV1 ho hb x0' x1'
      go_wp2
      go_loopw [5, 6] (fun v i wr => ∃ j : Nat, j ≤ M ∧ i = .int .i64 j ∧ v = .int .i64 (minN (maxmF vs k) k V j) ∧ OwnI wr w1.heap.size wr.heap.size (.slice A1 k c1) xs ∧ Below w1.heap.size w1 wr) (fun _ i _ => M - (intOf i).toNat)
      case atStart => exact ⟨0, Nat.zero_le _, rfl, rfl, ho3, hb3⟩
      case round =>
        clear ho3 hb3
        obtain ⟨j, hj, rfl, rfl, ho, hb⟩ := hrel
        have x0' := cell_carry hb x0
        have x1' := cell_carry hb x1
        by_cases hlj : j < M
        · have HJ : Hid (minN (maxmF vs k) k V (j + 1) = if j = k then minN (maxmF vs k) k V j else min (minN (maxmF vs k) k V j) (maxmF vs k j)) := rfl
          have j1 : (j : Int) < (M : Int) := by omega
          by_cases hjk : j = k
          · rw [if_pos hjk] at HJ
            have e1 : ((k : Int) != (j : Int)) = false := by rw [bne_eq_false_iff_eq]; omega
            generalize minN (maxmF vs k) k V j = s at *
            clear hjk
            go_wp2
            go_roundw
            case rel => exact ⟨j + 1, by omega, by go_num, by rw [HJ.out], ho, hb⟩
            case measure => simp [intOf]; omega
          · rw [if_neg hjk] at HJ
            have e1 : ((k : Int) != (j : Int)) = true := by rw [bne_iff_ne]; omega
            have KP1 : Hid (Calls Tryz.prog 183 #[.agg #[.int .i64 (M : Int), .slice A vs.length c], .int .i64 (k : Int), .int .i64 (j : Int)] wr fun e w' => e = .returned (.int .i64 (maxmF vs k j)) ∧ Below wr.heap.size wr w') := KP.out (k : Int) (j : Int) _ (h.below hb)
            generalize minN (maxmF vs k) k V j = s at *
            generalize maxmF vs k j = y at *
            clear hjk
            go_wp2_with fail
            (with_reducible refine KP1.out.mono ?_)
            rintro e w5 ⟨rfl, b5⟩
            have z5 := b5.size
            have ho5 := (ho.belowW b5).mono (Nat.le_refl _) z5
            have hb5 := hb.trans (b5.mono hb.size)
            clear b5 KP1 ho hb x0' x1'
            by_cases hys : y < s
            · rw [show min s y = y by omega] at HJ
              go_wp2
              go_roundw
              case rel => exact ⟨j + 1, by omega, by go_num, by rw [HJ.out], ho5, hb5⟩
              case measure => simp [intOf]; omega
            · rw [show min s y = s by omega] at HJ
              go_wp2
              go_roundw
              case rel => exact ⟨j + 1, by omega, by go_num, by rw [HJ.out], ho5, hb5⟩
              case measure => simp [intOf]; omega
        · obtain rfl : j = M := by omega
          generalize minN (maxmF vs k) k V j = y at *
          have z6 := hb.size
          go_wp2_with (at_builtin; refine wpList_append_int _ rfl _ _ rfl (w1.heap.size) _ (k) _ _ _ rfl (ho.alloc _) (y) _ 1 rfl (new_cell _ _ _ rfl) (by omega) (by simp; omega) (by simp; omega) ?_)
          intro A4 c4 w4 o4 on4
          have hb4 := (hb.alloc z6 (.cells #[.int .i64 y] 3)).trans (on4.toBelow (Nat.le_refl _) (by simp; omega))
          clear on4 ho hb
          go_wp2
          go_roundw
          case rel => exact ⟨k + 1, A4, c4, by omega, by go_num, rfl, by rw [HS.out]; exact o4, hb4⟩
          case measure => simp [intOf]; omega
    · obtain rfl : k = M := by omega
      rw [HT.out] at ho
      have hB5 := hB.trans (hb.mono hB.size)
      have z5 := hB.size
      go_wp2
      go_ret
      exact ⟨_, _, rfl, ho.mono z5 (Nat.le_refl _), hB5⟩
end Go.Proofs.YtaanppihgldeaaaGreatDoor
namespace Go.Proofs.YtaanppihgldeaaaGreatDoor
set_option linter.unusedSimpArgs false
set_option linter.unusedVariables false
set_option linter.unusedVariables false
open Go.RowKit

theorem gz_app_left {S T : List ZE} {j : Nat} (h : j < S.length) : gz (S ++ T) j = gz S j := by unfold gz; simp [List.getD, List.getElem?_append_left h]
theorem gz_app_mid {S : List ZE} {x : ZE} : gz (S ++ [x]) S.length = x := by unfold gz; simp [List.getD]
theorem sortK_app (key : ZE → Int) (L M : List ZE) : ∀ k, k ≤ L.length → sortK key (L ++ M) k = sortK key L k
  | 0, _ => rfl
  | k + 1, h => by rw [sortK, sortK, sortK_app key L M k (by omega), gz_app_left (by omega)]
theorem zr_app (P : List (List Int)) (r : List Int) : zr (P ++ [r]) = zr P ++ [(.int .i64 0, r)] := by unfold zr; rw [List.map_append]; rfl
theorem sortedR_add {kf : List Int → Int} {P : List (List Int)} {r : List Int} {Z : List ZE} (v : Value) (h : Z.map Prod.snd = sortedR kf P) : (insK (fun p => kf p.2) Z (v, r)).map Prod.snd = sortedR kf (P ++ [r]) := by
  unfold sortedR
  rw [List.length_append, zr_app]
  show _ = (sortK _ _ (P.length + 1)).map Prod.snd
  rw [sortK, sortK_app _ _ _ _ (by rw [zr_len]; exact Nat.le_refl _)]
  have e : gz (zr P ++ [(Value.int .i64 0, r)]) P.length = (.int .i64 0, r) := by rw [← zr_len P]; exact gz_app_mid
  rw [e]
  exact insK_snd h rfl
theorem slideK_is {key : ZE → Int} {S : List ZE} {x : ZE} {k : Nat} (h0 : k = 0 ∨ ¬ key (gz S (k - 1)) < key x) : ∀ n, k ≤ n → (∀ j, k ≤ j → j < n → key (gz S j) < key x) → slideK key S x n = k
  | 0, hk, _ => by rw [slideK]; omega
  | n + 1, hk, h => by
    rw [slideK]
    by_cases e : k = n + 1
    · subst e
      rw [if_neg]
      rcases h0 with h0 | h0
      · omega
      · exact h0
    · rw [if_pos (h n (by omega) (by omega))]
      exact slideK_is h0 n (by omega) fun j h1 h2 => h j h1 (by omega)
/-- greatest key first -/
def Desc (key : ZE → Int) (Z : List ZE) : Prop := ∀ i j, i < j → j < Z.length → key (gz Z j) ≤ key (gz Z i)
theorem desc_nil (key : ZE → Int) : Desc key [] := fun i j _ h => absurd h (by simp)
theorem gz_ins {S : List ZE} {x : ZE} {k : Nat} (hk : k ≤ S.length) (j : Nat) : gz (S.take k ++ x :: S.drop k) j = if j < k then gz S j else if j = k then x else gz S (j - 1) := by
  have hl : (S.take k).length = k := by simp; omega
  by_cases h1 : j < k
  · rw [if_pos h1, gz_app_left (by omega)]
    unfold gz
    simp [List.getD, List.getElem?_take_of_lt h1]
  · rw [if_neg h1]
    unfold gz
    simp only [List.getD]
    rw [List.getElem?_append_right (by omega), hl]
    by_cases h2 : j = k
    · subst h2; simp
    · rw [if_neg h2, show j - k = (j - k - 1) + 1 by omega, List.getElem?_cons_succ, List.getElem?_drop, show k + (j - k - 1) = j - 1 by omega]
theorem desc_ins {key : ZE → Int} {S : List ZE} {x : ZE} {k : Nat} (hd : Desc key S) (hk : k ≤ S.length) (h1 : ∀ j, j < k → key x ≤ key (gz S j)) (h2 : k = S.length ∨ key (gz S k) < key x) : Desc key (S.take k ++ x :: S.drop k) := by
  have h3 : ∀ j, k ≤ j → j < S.length → key (gz S j) < key x := fun j a b => by
    rcases h2 with h2 | h2
    · omega
    · by_cases e : j = k
      · subst e; exact h2
      · have := hd k j (by omega) b; omega
  intro i j hij hj
  have hl : (S.take k ++ x :: S.drop k).length = S.length + 1 := by simp; omega
  rw [hl] at hj
  rw [gz_ins hk, gz_ins hk]
  by_cases a : j < k
  · rw [if_pos a, if_pos (by omega)]; exact hd i j hij (by omega)
  · rw [if_neg a]
    by_cases b : j = k
    · rw [if_pos b, if_pos (by omega)]; exact h1 i (by omega)
    · rw [if_neg b]
      by_cases c : i < k
      · rw [if_pos c]; exact hd i (j - 1) (by omega) (by omega)
      · rw [if_neg c]
        by_cases d : i = k
        · rw [if_pos d]; exact Int.le_of_lt (h3 _ (by omega) (by omega))
        · rw [if_neg d]; exact hd (i - 1) (j - 1) (by omega) (by omega)
theorem insK_is {key : ZE → Int} {S : List ZE} {x : ZE} {k : Nat} (hd : Desc key S) (hk : k ≤ S.length) (h1 : ∀ j, j < k → key x ≤ key (gz S j)) (h2 : k = S.length ∨ key (gz S k) < key x) : insK key S x = S.take k ++ x :: S.drop k := by
  have h3 : ∀ j, k ≤ j → j < S.length → key (gz S j) < key x := fun j a b => by
    rcases h2 with h2 | h2
    · omega
    · by_cases e : j = k
      · subst e; exact h2
      · have := hd k j (by omega) b; omega
  have e : slideK key S x S.length = k := slideK_is (by
    by_cases e : k = 0
    · exact .inl e
    · right; have := h1 (k - 1) (by omega); omega) _ hk h3
  unfold insK
  rw [e]
/-- the pairs met until (a, b) -/
def metP (vs : List Vt) (M a b : Nat) : List (List Int) := collTo (fun a b => beatsP vs (a : Int) (b : Int)) pairG M a ++ coll (fun b => beatsP vs (a : Int) (b : Int)) (pairG a) b
theorem metP_start (vs : List Vt) (M : Nat) : metP vs M 0 0 = [] := rfl
theorem metP_row (vs : List Vt) (M a : Nat) : metP vs M a M = metP vs M (a + 1) 0 := by unfold metP; rw [collTo]; simp [coll]
theorem metP_all (vs : List Vt) (M : Nat) : metP vs M M 0 = pairsOf vs M := by unfold metP pairsOf; simp [coll]
theorem metP_yes {vs : List Vt} {M a b : Nat} (h : beatsP vs (a : Int) (b : Int) = true) : metP vs M a (b + 1) = metP vs M a b ++ [pairG a b] := by unfold metP; rw [coll_yes h, List.append_assoc]
theorem metP_no {vs : List Vt} {M a b : Nat} (h : beatsP vs (a : Int) (b : Int) = false) : metP vs M a (b + 1) = metP vs M a b := by unfold metP; rw [coll_no h]
theorem metP_len {vs : List Vt} {M a b : Nat} (hM : M ≤ 5) (ha : a ≤ M) (hb : b ≤ M) : (metP vs M a b).length ≤ 60 := by
  unfold metP
  have h1 := collTo_len (f := fun a b => beatsP vs (a : Int) (b : Int)) (g := pairG) (n := M) (by omega) a
  have h2 := coll_len (fun b => beatsP vs (a : Int) (b : Int)) (pairG a) b
  rw [List.length_append]; omega
/-- a pair of candidates -/
def PairOk (M : Nat) (r : List Int) : Prop := r.length = 2 ∧ (0 ≤ ix r 0 ∧ ix r 0 < M) ∧ (0 ≤ ix r 1 ∧ ix r 1 < M)
theorem pairG_ok {M a b : Nat} (ha : a < M) (hb : b < M) : PairOk M (pairG a b) := by
  have e0 : ix (pairG a b) 0 = (a : Int) := rfl
  have e1 : ix (pairG a b) 1 = (b : Int) := rfl
  refine ⟨rfl, ?_⟩
  rw [e0, e1]
  omega
theorem mem_ins {S : List ZE} {x p : ZE} {k : Nat} (h : p ∈ S.take k ++ x :: S.drop k) : p = x ∨ p ∈ S := by
  rw [List.mem_append, List.mem_cons] at h
  rcases h with h | h | h
  · exact .inr (List.mem_of_mem_take h)
  · exact .inl h
  · exact .inr (List.mem_of_mem_drop h)
theorem RowsZ.grown {w w' : World} {lo hi : Nat} {Z : List ZE} {row : Option Nat} (h : RowsZ w lo hi Z) (hg : w.grownBy w' row) (hr : ∀ k ys, row = some k → ∀ u, OwnI w lo hi u ys → u.ownBlock ≠ some k) : RowsZ w' lo hi Z := by
  refine h.keep fun p _ ho => ?_
  refine ⟨⟨ho.1.1, ?_⟩, ho.2⟩
  rcases ho.1.2 with h0 | ⟨g', cap, cur, hv, hgb, hg', r⟩
  · exact .inl h0
  · refine .inr ⟨g', cap, cur, hv, hgb, ?_, r⟩
    rw [hg.block g' (Array.getElem?_eq_some_iff.1 hg').1]
    · exact hg'
    · intro e'
      exact hr g' _ e'.symm _ ho (by rw [hv]; rfl)
theorem RowsZ.mono {w : World} {lo hi hi' : Nat} {Z : List ZE} (h : RowsZ w lo hi Z) (hh : hi ≤ hi') : RowsZ w lo hi' Z := ⟨fun p hp => (h.1 p hp).mono (Nat.le_refl _) hh, h.2⟩
theorem RowsZ.snoc {w : World} {lo hi l2 h2 : Nat} {Z : List ZE} {x : ZE} (h : RowsZ w lo hi Z) (o : OwnI w l2 h2 x.1 x.2) (h1 : hi ≤ l2) (hl : lo ≤ l2) (hh : hi ≤ h2) : RowsZ w lo h2 (Z ++ [x]) := by
  refine ⟨fun p hp => ?_, ?_⟩
  · rw [List.mem_append, List.mem_singleton] at hp
    rcases hp with hp | rfl
    · exact (h.1 p hp).mono (Nat.le_refl _) hh
    · exact o.mono hl (Nat.le_refl _)
  · rw [List.pairwise_append]
    refine ⟨h.2, by simp, fun p hp q hq => ?_⟩
    rw [List.mem_singleton] at hq
    subst hq
    cases e : p.1.ownBlock with
    | none => exact .inl e
    | some b =>
      right
      intro e2
      have a1 := (h.1 p hp).block_ge b e
      have a2 := o.block_ge b (by rw [← e2, e])
      have a3 := (h.1 p hp).2 b e
      omega
theorem ins_perm (S : List ZE) (x : ZE) (k : Nat) : (S.take k ++ x :: S.drop k).Perm (S ++ [x]) := by
  refine (List.perm_middle).trans ?_
  rw [List.take_append_drop]
  exact (List.perm_append_comm (l₁ := [x]) (l₂ := S))
theorem ownsRow_formZ {w : World} {lo n g c : Nat} {vs : List Value} (h : w.ownsRow lo 27 1 (.slice (some ⟨g, 0, none⟩) n c) n vs) : n ≤ c ∧ lo ≤ g ∧ g < w.heap.size ∧ vs.length = n := by
  have hl : vs.length = n := by have := h.1; omega
  rcases h.2 with ⟨e, h0⟩ | ⟨g', cap, cur, e, hb, hg, hc, _⟩
  · cases e
  · cases e
    exact ⟨hc, hb, (Array.getElem?_eq_some_iff.1 hg).1, hl⟩
theorem ownsRow_grownZ {w w' : World} {lo n : Nat} {v : Value} {vs : List Value} {row : Option Nat} (h : w.ownsRow lo 27 1 v n vs) (hg : w.grownBy w' row) (hr : ∀ k, row = some k → v.ownBlock ≠ some k) : w'.ownsRow lo 27 1 v n vs := by
  refine ⟨h.1, ?_⟩
  rcases h.2 with h0 | ⟨g, cap, cur, hv, hgb, hg', r⟩
  · exact .inl h0
  · exact .inr ⟨g, cap, cur, hv, hgb, by rw [hg.block g (Array.getElem?_eq_some_iff.1 hg').1 (fun e => hr g e.symm (by rw [hv]; rfl))]; exact hg', r⟩
theorem ins_step {vs : List Vt} {Z : List ZE} {r : List Int} {T : List (List Int)} {k : Nat} (v : Value) (hs : ∀ v, (insK (fun p => keyR vs p.2) Z (v, r)).map Prod.snd = T) (hd : Desc (fun p => keyR vs p.2) Z) (hk : k ≤ Z.length) (h1 : ∀ j, j < k → keyR vs r ≤ keyR vs (gz Z j).2) (h2 : k = Z.length ∨ keyR vs (gz Z k).2 < keyR vs r) :
    (Z.take k ++ (v, r) :: Z.drop k).map Prod.snd = T ∧ Desc (fun p => keyR vs p.2) (Z.take k ++ (v, r) :: Z.drop k) := by
  have e := insK_is (key := fun p => keyR vs p.2) (x := (v, r)) hd hk h1 h2
  refine ⟨?_, desc_ins hd hk h1 h2⟩
  rw [← e]; exact hs v
theorem ins_ok {M : Nat} {Z : List ZE} {x : ZE} {k : Nat} (hz : ∀ p ∈ Z, PairOk M p.2) (hx : PairOk M x.2) : ∀ p ∈ Z.take k ++ x :: Z.drop k, PairOk M p.2 := fun p hp => by
  rcases mem_ins hp with e | e
  · rw [e]; exact hx
  · exact hz p e
theorem ownsRow_lo {w : World} {lo lo' n : Nat} {v : Value} {vs : List Value} (h : w.ownsRow lo 27 1 v n vs) (hl : lo' ≤ lo) : w.ownsRow lo' 27 1 v n vs := by
  refine ⟨h.1, ?_⟩
  rcases h.2 with h0 | ⟨g, cap, cur, hv, hgb, r⟩
  · exact .inl h0
  · exact .inr ⟨g, cap, cur, hv, Nat.le_trans hl hgb, r⟩
theorem RowsZ.lo {w : World} {lo lo' hi : Nat} {Z : List ZE} (h : RowsZ w lo hi Z) (hl : lo' ≤ lo) : RowsZ w lo' hi Z := ⟨fun p hp => (h.1 p hp).mono hl (Nat.le_refl _), h.2⟩
end Go.Proofs.YtaanppihgldeaaaGreatDoor
