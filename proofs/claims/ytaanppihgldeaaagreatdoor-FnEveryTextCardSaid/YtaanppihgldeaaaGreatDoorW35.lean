/- The reference reads a number. The library's Join, Cut, CutPrefix, Index, Atoi and Itoa by their contracts, at this seat's own numbers (printed by the kit's tools lay-shelf and lay-plain for the seat g2: only for this; see wip/tools/selshelf.py). -/
import Derived.Test.YtaanppihgldeaaaGreatDoorW34
import Derived.Shelf.Strings.OnBuilder
import Derived.Shelf.Small.Wraps
import Derived.Shelf.LaysM
import Derived.Shelf.LaysC
import Derived.Shelf.Strconv.Itoa3
import Derived.Shelf.Strconv.AtoiAll
import Derived.Shelf.Strings.Search3
import Derived.Shelf.Strings.Cut
import Derived.Test.YtaanppihgldeaaaGreatDoorW01
namespace Go.Proofs.YtaanppihgldeaaaGreatDoor
set_option linter.unusedSimpArgs false
set_option linter.unusedVariables false
set_option linter.unusedVariables false
open Go.RowKit

theorem size_list (a : ByteArray) : a.size = a.data.toList.length := by rw [Array.length_toList]; rfl
theorem byte_at (a : ByteArray) (k : Nat) (h : k < a.size) (h2 : k < a.data.toList.length) : a.data.toList[k] = a[k] := by rw [Array.getElem_toList]; rfl
theorem str_ne {a b : ByteArray} (h : a ≠ b) : (a.toList == b.toList) = false := by
  rw [beq_eq_false_iff_ne, ByteArray.toList_eq, ByteArray.toList_eq]
  exact fun e => h (ByteArray.ext (Array.ext' e))
theorem str_eq {a b : ByteArray} (h : a = b) : (a.toList == b.toList) = true := by rw [h]; simp
theorem str_nil {a : ByteArray} (h : a ≠ ⟨#[]⟩) : a.toList.isEmpty = false := by
  cases e : a.toList with
  | nil => exact absurd (ByteArray.ext (Array.ext' (by rw [← ByteArray.toList_eq, e]))) h
  | cons x l => rfl
def isDig (b : UInt8) : Bool := decide (48 ≤ b.toNat) && decide (b.toNat ≤ 57)
def digB (l : List UInt8) : Bool := l.all isDig && decide (0 < l.length)
theorem all_take {l : List UInt8} {k : Nat} (h : k < l.length) : (l.take (k + 1)).all isDig = ((l.take k).all isDig && isDig l[k]) := by
  rw [List.take_succ_eq_append_getElem h, List.all_append]; simp
theorem all_stop {l : List UInt8} {k : Nat} (h : k < l.length) (hd : isDig l[k] = false) : digB l = false := by
  unfold digB
  have : l.all isDig = false := by
    rw [List.all_eq_false]
    exact ⟨l[k], List.getElem_mem h, by rw [hd]; simp⟩
  rw [this]; rfl
set_option maxHeartbeats 800000 in
theorem specIsDigits (a : ByteArray) (w : World) (ha : a.size ≤ 1048576) :
    Calls Tryz.prog 45 #[.string a] w fun e w' => e = .returned (.bool (digB a.data.toList)) ∧ w = w' := by
  obtain ⟨b, hb⟩ : ∃ b, a.data.toList = b := ⟨_, rfl⟩
  have hz := size_list a
  rw [hb] at hz ⊢
  have HB := Lib.hid hb
  clear hb
  have HZ := Lib.hid hz
  clear hz
  go_enter Tryz.func45, Tryz.ntmps45
  go_wp2
  go_loop [3] (fun i_ => ∃ k : Nat, k ≤ a.size ∧ i_ = .int .i64 k ∧ Hid ((b.take k).all isDig = true)) (fun i_ => a.size - (intOf i_).toNat)
  case atStart => exact ⟨0, Nat.zero_le _, rfl, rfl⟩
  case round =>
    obtain ⟨k, hk, rfl, hd⟩ := hrel
    by_cases hlt : k < a.size
    · have hkb : k < b.length := by have := HZ.out; omega
      have HT := Lib.hid (all_take hkb)
      have hx : a[k].toNat < 256 := UInt8.toNat_lt _
      have e : b[k] = a[k] := by
        have := byte_at a k hlt (by rw [HB.out]; exact hkb)
        simp only [HB.out] at this
        exact this
      have HS := Lib.hid (all_stop hkb)
      rw [e] at HT HS
      obtain ⟨c, hc⟩ : ∃ c : Nat, a[k].toNat = c := ⟨_, rfl⟩
      have hci : (a[k].toNat : Int) = (c : Int) := by rw [hc]
      have hD : isDig a[k] = (decide (48 ≤ c) && decide (c ≤ 57)) := by unfold isDig; rw [hc]
      rw [hD] at HT HS
      rw [hc] at hx
      clear e hD
      by_cases h1 : c < 48
      · have HR := Lib.hid (HS.out (by simp; omega))
        have t1 : (c : Int) < 48 := by omega
        clear HS HT hc
        go_wp2
        go_ret
        exact ⟨by rw [HR.out]; rfl, rfl⟩
      · by_cases h2 : 57 < c
        · have HR := Lib.hid (HS.out (by simp; omega))
          have t1 : ¬ (c : Int) < 48 := by omega
          have t2 : (57 : Int) < (c : Int) := by omega
          clear HS HT hc
          go_wp2
          go_ret
          exact ⟨by rw [HR.out]; rfl, rfl⟩
        · have hd2 : Hid ((b.take (k + 1)).all isDig = true) := by
            show _ = _
            rw [show (b.take (k + 1)).all isDig = _ from HT.out, hd.out]; simp; omega
          have t1 : ¬ (c : Int) < 48 := by omega
          have t2 : ¬ (57 : Int) < (c : Int) := by omega
          clear HS HT hc hd
          go_wp2
          go_round
          case rel => exact ⟨k + 1, by omega, by go_num, hd2⟩
          case measure => simp [intOf]; omega
    · obtain rfl : k = a.size := by omega
      have HE : Hid (decide (0 < a.size) = digB b) := by
        have h2 := hd.out
        rw [show b.take a.size = b from by rw [HZ.out, List.take_length]] at h2
        show _ = _
        unfold digB
        rw [h2, HZ.out]
        simp
      clear hd
      go_wp2
      go_ret
      exact ⟨by rw [← HE.out]; rfl, rfl⟩
/-- what the digits spell, with a minus -/
def valL (l : List UInt8) : Int := l.foldl (fun v x => v * 10 - ((x.toNat : Int) - 48)) 0
theorem valL_snoc (l : List UInt8) (x : UInt8) : valL (l ++ [x]) = valL l * 10 - ((x.toNat : Int) - 48) := by unfold valL; rw [List.foldl_append]; rfl
theorem valL_take {l : List UInt8} {k : Nat} (h : k < l.length) : valL (l.take (k + 1)) = valL (l.take k) * 10 - ((l[k].toNat : Int) - 48) := by
  rw [List.take_succ_eq_append_getElem h, valL_snoc]
theorem dig_at {l : List UInt8} (h : digB l = true) {k : Nat} (hk : k < l.length) : 48 ≤ l[k].toNat ∧ l[k].toNat ≤ 57 := by
  unfold digB at h
  rw [Bool.and_eq_true, List.all_eq_true] at h
  have := h.1 l[k] (List.getElem_mem hk)
  unfold isDig at this
  simpa using this
theorem valL_down {l : List UInt8} (h : digB l = true) : ∀ k, k ≤ l.length → valL (l.take k) ≤ 0 ∧ valL l ≤ valL (l.take k) := by
  have step : ∀ k, k < l.length → valL (l.take k) ≤ 0 → valL (l.take (k + 1)) ≤ valL (l.take k) := fun k hk h0 => by
    rw [valL_take hk]
    have := dig_at h hk
    omega
  have neg : ∀ k, k ≤ l.length → valL (l.take k) ≤ 0 := by
    intro k
    induction k with
    | zero => intro _; simp [valL]
    | succ k ih => intro hk; have := ih (by omega); have := step k (by omega) this; omega
  have down : ∀ d k, k + d = l.length → valL l ≤ valL (l.take k) := by
    intro d
    induction d with
    | zero => intro k hk; rw [List.take_of_length_le (by omega)]; exact Int.le_refl _
    | succ d ih => intro k hk; have := ih (k + 1) (by omega); have := step k (by omega) (neg k (by omega)); omega
  exact fun k hk => ⟨neg k hk, down (l.length - k) k (by omega)⟩
theorem valL_dec : ∀ k : Nat, valL (Lib.decDigits k) = -(k : Int) := by
  intro k
  induction k using Nat.strongRecOn with
  | ind k ih =>
    by_cases h : k < 10
    · rw [Lib.decDigits_one h]
      simp only [valL, List.foldl_cons, List.foldl_nil, UInt8.toNat_ofNat']
      omega
    · rw [Lib.decDigits, dif_neg h, valL_snoc, ih (k / 10) (by omega), UInt8.toNat_ofNat']
      omega
theorem dec_dig (k : Nat) : digB (Lib.decDigits k) = true := by
  unfold digB
  rw [Bool.and_eq_true]
  refine ⟨?_, decide_eq_true (List.length_pos_iff.2 (dec_ne k))⟩
  rw [List.all_eq_true]
  intro x hx
  have := dec_digits k x hx
  unfold isDig
  simp [this]
theorem dec_len : ∀ k : Nat, (Lib.decDigits k).length = 1 ∨ 10 ^ ((Lib.decDigits k).length - 1) ≤ k := by
  intro k
  induction k using Nat.strongRecOn with
  | ind k ih =>
    by_cases h : k < 10
    · rw [Lib.decDigits_one h]; exact .inl rfl
    · rw [Lib.decDigits, dif_neg h, List.length_append]
      right
      rcases ih (k / 10) (by omega) with h1 | h1
      · rw [h1]; simp; omega
      · have h2 : (Lib.decDigits (k / 10)).length ≠ 0 := fun e => dec_ne _ (List.eq_nil_of_length_eq_zero e)
        have h3 : (Lib.decDigits (k / 10)).length + [UInt8.ofNat (48 + k % 10)].length - 1 = ((Lib.decDigits (k / 10)).length - 1) + 1 := by simp; omega
        rw [h3, Nat.pow_succ]
        omega
theorem dec_short {k : Nat} (hk : k ≤ 1000) : (Lib.decDigits k).length ≤ 4 := by
  rcases dec_len k with h | h
  · omega
  · rcases Nat.lt_or_ge 4 (Lib.decDigits k).length with h1 | h1
    · have := Nat.pow_le_pow_right (show 0 < 10 by omega) (show 4 ≤ (Lib.decDigits k).length - 1 by omega)
      omega
    · exact h1
theorem min_div {d q : Int} (h0 : 0 ≤ d) (h9 : d ≤ 9) (hq : (-9223372036854775808 + d).tdiv 10 = q) : -9223372036854775808 + d ≤ q * 10 ∧ q ≤ -9223372 := by
  have : (-9223372036854775808 + d).tdiv 10 = -((9223372036854775808 - d) / 10) := by
    rw [← Int.tdiv_eq_ediv_of_nonneg (by omega), ← Int.neg_tdiv]; congr 1; omega
  omega
/-- what a small number's text gives -/
structure DecK (a : ByteArray) (b : List UInt8) (k : Nat) : Prop where
  dig : digB b = true
  len : b.length ≤ 4
  val : valL b = -(k : Int)
theorem decK_of {a : ByteArray} {k : Nat} (hk : k ≤ 1000) (h : a = strOfNums (decN k)) : DecK a a.data.toList k := by
  have e : a.data.toList = Lib.decDigits k := by rw [h, decN_bytes]
  rw [e]
  exact ⟨dec_dig k, dec_short hk, valL_dec k⟩
theorem decK_head {a : ByteArray} {k : Nat} (h : a = strOfNums (decN k)) (h0 : 0 < a.size) : a[0].toNat ≠ 45 := by
  have e : a.data.toList = Lib.decDigits k := by rw [h, decN_bytes]
  have hl : 0 < a.data.toList.length := by rw [← size_list]; exact h0
  have h1 := byte_at a 0 h0 hl
  have := dec_digits k a[0] (by rw [← h1, ← e]; exact List.getElem_mem hl)
  omega
/-- how the reading of a number ends -/
structure ReadInt (a : ByteArray) (w : World) (e : Ending) (w' : World) : Prop where
  ex : ∃ (n : Int) (ok : Bool), e = .returned (.tuple #[.int .i64 n, .bool ok]) ∧ -9223372036854775808 ≤ n ∧ n ≤ 9223372036854775807 ∧ (∀ k ≤ 1000, a = strOfNums (decN k) → n = (k : Int) ∧ ok = true) ∧ Below w.heap.size w w'
set_option maxRecDepth 100000 in
set_option maxHeartbeats 4000000 in
theorem specParseInt (a : ByteArray) (w : World) (ha : a.size ≤ 1048576) :
    Calls Tryz.prog 20 #[.string a] w (ReadInt a w) := by
  rcases Nat.eq_zero_or_pos a.size with h0 | h0
  · have hb0 : a.data.toList = [] := List.eq_nil_of_length_eq_zero (by rw [← size_list]; exact h0)
    have HN : Hid (∀ k ≤ 1000, a = strOfNums (decN k) → False) := fun k hk e => by
      have := (decK_of hk e).dig
      rw [hb0] at this
      cases this
    have HD := specIsDigits a w ha
    rw [hb0] at HD
    have e0 : digB [] = false := rfl
    rw [e0] at HD
    have KD := Lib.hid HD
    clear HD hb0 e0
    go_enter Tryz.func20, Tryz.ntmps20
    go_wp2_with fail
    (with_reducible refine KD.out.mono ?_)
    rintro e w' ⟨rfl, rfl⟩
    go_wp2
    go_ret2
    exact ⟨0, false, rfl, by omega, by omega, fun k hk e => (HN.out k hk e).elim, Below.refl _ _⟩
  have hx : a[0].toNat < 256 := UInt8.toNat_lt _
  by_cases h4 : a[0].toNat = 45
  · have HK : Hid (∀ k ≤ 1000, a = strOfNums (decN k) → False) := fun k hk e => absurd h4 (decK_head e h0)
    obtain ⟨t, hT⟩ : ∃ t, a.extract 1 a.size = t := ⟨_, rfl⟩
    have hts : t.size ≤ 1048576 := by rw [← hT]; simp; omega
    obtain ⟨b, hb⟩ : ∃ b, t.data.toList = b := ⟨_, rfl⟩
    have hz := size_list t
    rw [hb] at hz
    have HB := Lib.hid hb
    have HZ := Lib.hid hz
    have HD := specIsDigits t w hts
    rw [hb] at HD
    have KD := Lib.hid HD
    clear hb hz HD
    go_enter Tryz.func20, Tryz.ntmps20
    go_wp2_with fail
    (with_reducible refine KD.out.mono ?_)
    rintro e w' ⟨rfl, rfl⟩
    clear KD
    cases hdg : digB b
    · have HN : Hid (∀ k ≤ 1000, a = strOfNums (decN k) → False) := HK.out
      clear hdg HK
      go_wp2
      go_ret2
      exact ⟨0, false, rfl, by omega, by omega, fun k hk e => (HN.out k hk e).elim, Below.refl _ _⟩
    by_cases h19 : 19 < t.size
    · have HN : Hid (∀ k ≤ 1000, a = strOfNums (decN k) → False) := HK.out
      have t19 : decide ((19 : Int) < (t.size : Int)) = true := decide_eq_true (by omega)
      clear h19
      clear hdg HK
      go_wp2
      go_ret2
      exact ⟨0, false, rfl, by omega, by omega, fun k hk e => (HN.out k hk e).elim, Below.refl _ _⟩
    have t19 : decide ((19 : Int) < (t.size : Int)) = false := decide_eq_false (by omega)
    clear h19
    have HG := Lib.hid (fun k (hk : k < b.length) => dig_at hdg hk)
    have HV := Lib.hid (valL_down hdg)
    clear hdg
    go_wp2
    go_loop [6, 7] (fun v_ i_ => ∃ i : Nat, i ≤ t.size ∧ i_ = .int .i64 i ∧ v_ = .int .i64 (valL (b.take i)) ∧ -9223372036854775808 ≤ valL (b.take i)) (fun _ i_ => t.size - (intOf i_).toNat)
    case atStart => exact ⟨0, Nat.zero_le _, rfl, rfl, by simp [valL]⟩
    case round =>
      obtain ⟨i, hi, rfl, rfl, hlo⟩ := hrel
      by_cases hlt : i < t.size
      · have hib : i < b.length := by have := HZ.out; omega
        have hx : t[i].toNat < 256 := UInt8.toNat_lt _
        have e : b[i] = t[i] := by
          have := byte_at t i hlt (by rw [HB.out]; exact hib)
          simp only [HB.out] at this
          exact this
        have hg := HG.out i hib
        have hvt := valL_take hib
        have hv := HV.out i (by omega)
        rw [e] at hg hvt
        obtain ⟨d, hd⟩ : ∃ d : Int, (t[i].toNat : Int) - 48 = d := ⟨_, rfl⟩
        rw [hd] at hvt
        have d0 : 0 ≤ d := by omega
        have d9 : d ≤ 9 := by omega
        obtain ⟨q, hq⟩ : ∃ q : Int, (-9223372036854775808 + d).tdiv 10 = q := ⟨_, rfl⟩
        have hm := min_div d0 d9 hq
        have HM := Lib.hid hm
        have HVT := Lib.hid hvt
        have hbl : -1000 ≤ valL b → -1000 ≤ valL (b.take i) := fun h => by omega
        have HBL := Lib.hid hbl
        have hv0 := hv.1
        have HT := Lib.hid hv
        obtain ⟨v, hvv⟩ : ∃ v : Int, valL (b.take i) = v := ⟨_, rfl⟩
        rw [hvv] at hlo hv0 HVT HBL ⊢
        have q1 := hm.1
        have q2 := hm.2
        clear hm hvt hbl hv hg e HT hvv
        have wd : IntKind.i64.wrap (-9223372036854775808 + d) = -9223372036854775808 + d := IntWalk.i64_in _ (by omega)
        by_cases hlq : v < q
        · have HN : Hid (∀ k ≤ 1000, a = strOfNums (decN k) → False) := HK.out
          clear HVT HBL HK
          go_wp2
          go_ret2
          exact ⟨0, false, rfl, by omega, by omega, fun k hk e => (HN.out k hk e).elim, Below.refl _ _⟩
        · have w1 : IntKind.i64.wrap (v * 10) = v * 10 := IntWalk.i64_in _ (by omega)
          have w2 : IntKind.i64.wrap (v * 10 - d) = v * 10 - d := IntWalk.i64_in _ (by omega)
          have hlo2 : -9223372036854775808 ≤ v * 10 - d := by omega
          go_wp2
          go_round
          case rel => exact ⟨i + 1, by omega, by go_num, by rw [HVT.out], by rw [HVT.out]; exact hlo2⟩
          case measure => simp [intOf]; omega
      · obtain rfl : i = t.size := by omega
        rw [show b.take t.size = b from by rw [HZ.out, List.take_length]] at hlo ⊢
        have hv0 := (HV.out b.length (Nat.le_refl _)).1
        rw [List.take_length] at hv0
        obtain ⟨v, hvv⟩ : ∃ v : Int, valL b = v := ⟨_, rfl⟩
        have HVV := Lib.hid hvv
        rw [hvv] at hlo hv0 ⊢
        clear hvv
        have HN := HK
        clear HK HVV HV HG
        go_wp2_with fail
        (with_reducible refine (specFormatInt v _ (by omega) (by omega)).mono ?_)
        rintro e w2 ⟨s, rfl, hs, hb2⟩
        clear hs
        by_cases he : s = a
        · have he2 := str_eq he
          clear he
          go_wp2
          go_ret2
          exact ⟨v, true, rfl, by omega, by omega, fun k hk e => (HN.out k hk e).elim, hb2⟩
        · have he2 := str_ne he
          clear he
          go_wp2
          go_ret2
          exact ⟨0, false, rfl, by omega, by omega, fun k hk e => (HN.out k hk e).elim, hb2⟩
  · have HK0 : Hid (∀ k ≤ 1000, a = strOfNums (decN k) → DecK a a.data.toList k) := fun k hk e => decK_of hk e
    have hts := ha
    obtain ⟨b, hb⟩ : ∃ b, a.data.toList = b := ⟨_, rfl⟩
    have hz := size_list a
    rw [hb] at hz
    rw [hb] at HK0
    have HK := Lib.hid HK0.out
    clear HK0
    have HB := Lib.hid hb
    have HZ := Lib.hid hz
    have HD := specIsDigits a w hts
    rw [hb] at HD
    have KD := Lib.hid HD
    clear hb hz HD
    go_enter Tryz.func20, Tryz.ntmps20
    go_wp2_with fail
    (with_reducible refine KD.out.mono ?_)
    rintro e w' ⟨rfl, rfl⟩
    clear KD
    cases hdg : digB b
    · have HN : Hid (∀ k ≤ 1000, a = strOfNums (decN k) → False) := fun k hk e => by have := (HK.out k hk e).dig; rw [hdg] at this; cases this
      clear hdg HK
      go_wp2
      go_ret2
      exact ⟨0, false, rfl, by omega, by omega, fun k hk e => (HN.out k hk e).elim, Below.refl _ _⟩
    by_cases h19 : 19 < a.size
    · have HN : Hid (∀ k ≤ 1000, a = strOfNums (decN k) → False) := fun k hk e => by have := (HK.out k hk e).len; have := HZ.out; omega
      have t19 : decide ((19 : Int) < (a.size : Int)) = true := decide_eq_true (by omega)
      clear h19
      clear hdg HK
      go_wp2
      go_ret2
      exact ⟨0, false, rfl, by omega, by omega, fun k hk e => (HN.out k hk e).elim, Below.refl _ _⟩
    have t19 : decide ((19 : Int) < (a.size : Int)) = false := decide_eq_false (by omega)
    clear h19
    have HG := Lib.hid (fun k (hk : k < b.length) => dig_at hdg hk)
    have HV := Lib.hid (valL_down hdg)
    clear hdg
    go_wp2
    go_loop [6, 7] (fun v_ i_ => ∃ i : Nat, i ≤ a.size ∧ i_ = .int .i64 i ∧ v_ = .int .i64 (valL (b.take i)) ∧ -9223372036854775808 ≤ valL (b.take i)) (fun _ i_ => a.size - (intOf i_).toNat)
    case atStart => exact ⟨0, Nat.zero_le _, rfl, rfl, by simp [valL]⟩
    case round =>
      obtain ⟨i, hi, rfl, rfl, hlo⟩ := hrel
      by_cases hlt : i < a.size
      · have hib : i < b.length := by have := HZ.out; omega
        have hx : a[i].toNat < 256 := UInt8.toNat_lt _
        have e : b[i] = a[i] := by
          have := byte_at a i hlt (by rw [HB.out]; exact hib)
          simp only [HB.out] at this
          exact this
        have hg := HG.out i hib
        have hvt := valL_take hib
        have hv := HV.out i (by omega)
        rw [e] at hg hvt
        obtain ⟨d, hd⟩ : ∃ d : Int, (a[i].toNat : Int) - 48 = d := ⟨_, rfl⟩
        rw [hd] at hvt
        have d0 : 0 ≤ d := by omega
        have d9 : d ≤ 9 := by omega
        obtain ⟨q, hq⟩ : ∃ q : Int, (-9223372036854775808 + d).tdiv 10 = q := ⟨_, rfl⟩
        have hm := min_div d0 d9 hq
        have HM := Lib.hid hm
        have HVT := Lib.hid hvt
        have hbl : -1000 ≤ valL b → -1000 ≤ valL (b.take i) := fun h => by omega
        have HBL := Lib.hid hbl
        have hv0 := hv.1
        have HT := Lib.hid hv
        obtain ⟨v, hvv⟩ : ∃ v : Int, valL (b.take i) = v := ⟨_, rfl⟩
        rw [hvv] at hlo hv0 HVT HBL ⊢
        have q1 := hm.1
        have q2 := hm.2
        clear hm hvt hbl hv hg e HT hvv
        have wd : IntKind.i64.wrap (-9223372036854775808 + d) = -9223372036854775808 + d := IntWalk.i64_in _ (by omega)
        by_cases hlq : v < q
        · have HN : Hid (∀ k ≤ 1000, a = strOfNums (decN k) → False) := fun k hk e => by
            have h1 := (HK.out k hk e).val
            have h2 := HBL.out (by omega)
            omega
          clear HVT HBL HK
          go_wp2
          go_ret2
          exact ⟨0, false, rfl, by omega, by omega, fun k hk e => (HN.out k hk e).elim, Below.refl _ _⟩
        · have w1 : IntKind.i64.wrap (v * 10) = v * 10 := IntWalk.i64_in _ (by omega)
          have w2 : IntKind.i64.wrap (v * 10 - d) = v * 10 - d := IntWalk.i64_in _ (by omega)
          have hlo2 : -9223372036854775808 ≤ v * 10 - d := by omega
          go_wp2
          go_round
          case rel => exact ⟨i + 1, by omega, by go_num, by rw [HVT.out], by rw [HVT.out]; exact hlo2⟩
          case measure => simp [intOf]; omega
      · obtain rfl : i = a.size := by omega
        rw [show b.take a.size = b from by rw [HZ.out, List.take_length]] at hlo ⊢
        have hv0 := (HV.out b.length (Nat.le_refl _)).1
        rw [List.take_length] at hv0
        obtain ⟨v, hvv⟩ : ∃ v : Int, valL b = v := ⟨_, rfl⟩
        have HVV := Lib.hid hvv
        rw [hvv] at hlo hv0 ⊢
        clear hvv
        have HF : Hid (∀ k ≤ 1000, a = strOfNums (decN k) → -v = (k : Int)) := fun k hk e => by have := (HK.out k hk e).val; have := HVV.out; omega
        clear HK HVV HV HG
        by_cases hm : v = -9223372036854775808
        · have HN : Hid (∀ k ≤ 1000, a = strOfNums (decN k) → False) := fun k hk e => by have := HF.out k hk e; omega
          have hm2 : (v == -9223372036854775808) = true := by rw [beq_iff_eq]; exact hm
          clear hm HF
          go_wp2
          go_ret2
          exact ⟨0, false, rfl, by omega, by omega, fun k hk e => (HN.out k hk e).elim, Below.refl _ _⟩
        · have hm2 : (v == -9223372036854775808) = false := by rw [beq_eq_false_iff_ne]; exact hm
          have wn : IntKind.i64.wrap (-v) = -v := IntWalk.i64_in _ (by omega)
          have hm3 : -9223372036854775807 ≤ v := by omega
          clear hm
          go_wp2_with fail
          (with_reducible refine (specFormatInt (-v) _ (by omega) (by omega)).mono ?_)
          rintro e w2 ⟨s, rfl, hs, hb2⟩
          have HS := Lib.hid (hs (by omega))
          clear hs
          by_cases he : s = a
          · have he2 := str_eq he
            clear he
            go_wp2
            go_ret2
            exact ⟨-v, true, rfl, by omega, by omega, fun k hk e => ⟨HF.out k hk e, rfl⟩, hb2⟩
          · have he2 := str_ne he
            have HN : Hid (∀ k ≤ 1000, a = strOfNums (decN k) → False) := fun k hk e => by
              have h1 := HF.out k hk e
              apply he
              rw [HS.out, e, h1]
              rfl
            clear he HS HF
            go_wp2
            go_ret2
            exact ⟨0, false, rfl, by omega, by omega, fun k hk e => (HN.out k hk e).elim, hb2⟩
end Go.Proofs.YtaanppihgldeaaaGreatDoor
namespace Go.Proofs.YtaanppihgldeaaaGreatDoor
set_option linter.unusedSimpArgs false
set_option linter.unusedVariables false
set_option linter.unusedVariables false
open Go.Shelf
def sh_lays156_ren : Go.Shelf.Ren := ⟨fun | 156 => 155 | 165 => 197 | 166 => 198 | 169 => 199 | 240 => 226 | 241 => 227 | 276 => 244 | 277 => 245 | n => n, fun | 31 => 45 | 9 => 9 | 3 => 3 | 4 => 4 | 0 => 0 | 20 => 20 | 72 => 146 | 76 => 63 | 70 => 144 | 37 => 90 | 75 => 62 | 127 => 165 | 164 => 186 | 5 => 5 | 80 => 148 | n => n, fun | n => n⟩
theorem sh_lays156 : Go.Proofs.Lays.n156 Tryz.prog sh_lays156_ren := {
  mixed := by kernel_rfl
  f156 := Tryz.func155.trans (congrArg some (by kernel_rfl))
  f165 := Tryz.func197.trans (congrArg some (by kernel_rfl))
  f166 := Tryz.func198.trans (congrArg some (by kernel_rfl))
  f169 := Tryz.func199.trans (congrArg some (by kernel_rfl))
  f240 := Tryz.func226.trans (congrArg some (by kernel_rfl))
  f241 := Tryz.func227.trans (congrArg some (by kernel_rfl))
  f276 := Tryz.func244.trans (congrArg some (by kernel_rfl))
  f277 := Tryz.func245.trans (congrArg some (by kernel_rfl))
  t0 := Tryz.underlying0
  a0 := Tryz.isAgg0
  z0 := Tryz.sizeOf0
  v0 := Tryz.zeroValue0
  t3 := Tryz.underlying3
  a3 := Tryz.isAgg3
  z3 := Tryz.sizeOf3
  v3 := Tryz.zeroValue3
  t4 := Tryz.underlying4
  a4 := Tryz.isAgg4
  z4 := Tryz.sizeOf4
  v4 := Tryz.zeroValue4
  t9 := Tryz.underlying9
  a9 := Tryz.isAgg9
  z9 := Tryz.sizeOf9
  v9 := Tryz.zeroValue9
  t20 := Tryz.underlying20
  a20 := Tryz.isAgg20
  z20 := Tryz.sizeOf20
  v20 := Tryz.zeroValue20
  t31 := Tryz.underlying45
  a31 := Tryz.isAgg45
  z31 := Tryz.sizeOf45
  v31 := Tryz.zeroValue45
  t37 := Tryz.underlying90
  a37 := Tryz.isAgg90
  z37 := Tryz.sizeOf90
  v37 := Tryz.zeroValue90
  t70 := Tryz.underlying144
  a70 := Tryz.isAgg144
  z70 := Tryz.sizeOf144
  v70 := Tryz.zeroValue144
  t72 := Tryz.underlying146
  a72 := Tryz.isAgg146
  z72 := Tryz.sizeOf146
  v72 := Tryz.zeroValue146
  t75 := Tryz.underlying62
  a75 := Tryz.isAgg62
  z75 := Tryz.sizeOf62
  v75 := Tryz.zeroValue62
  t76 := Tryz.underlying63
  a76 := Tryz.isAgg63
  z76 := Tryz.sizeOf63
  v76 := Tryz.zeroValue63
  t127 := Tryz.underlying165
  a127 := Tryz.isAgg165
  z127 := Tryz.sizeOf165
  v127 := Tryz.zeroValue165
  t164 := Tryz.underlying186
  a164 := Tryz.isAgg186
  z164 := Tryz.sizeOf186
  v164 := Tryz.zeroValue186 }
theorem sh_Builder_Extra_156 : Builder.Extra Tryz.prog sh_lays156_ren := {
  sizeBuilder := by kernel_rfl
  liesBuilder := by kernel_rfl
  t5 := Tryz.underlying5
  a5 := Tryz.isAgg5
  z5 := Tryz.sizeOf5
  v5 := Tryz.zeroValue5
  infoByte := by kernel_rfl
  cellsByte := by kernel_rfl
  sizeByte := by kernel_rfl
  neB5 := by decide }
open Go.RowKit in
theorem sh_strings_Join_none (a : Option Addr) (c : Nat) (sep : ByteArray) (w : World) :
    Calls Tryz.prog 155 #[.slice a 0 c, .string sep] w fun e w' => e = .returned (.string ⟨#[]⟩) ∧ w' = w := Any.strings_Join_none sh_lays156 sh_Builder_Extra_156 a c sep w
open Go.RowKit in
theorem sh_strings_Join (bk o c : Nat) (xs : List ByteArray) (sep : ByteArray) (w : World) (hcells : ∀ (j : Nat) x, xs[j]? = some x → w.cell? ⟨bk, o + j, none⟩ = some (.string x)) (hbk : bk < w.heap.size) (hN : xs.length ≤ 140737488355328) (hcap : xs.length ≤ c) (hlen : (Lib.join (xs.map (·.data.toList)) sep.data.toList).length ≤ 140737488355328) :
    Calls Tryz.prog 155 #[.slice (some ⟨bk, o, none⟩) xs.length c, .string sep] w fun e w' => e = .returned (.string ⟨(Lib.join (xs.map (·.data.toList)) sep.data.toList).toArray⟩) ∧ Below w.heap.size w w' := Any.strings_Join sh_lays156 sh_Builder_Extra_156 bk o c xs sep w hcells hbk hN hcap hlen
def sh_lays103_ren : Go.Shelf.Ren := ⟨fun | 103 => 14 | 210 => 37 | 206 => 82 | n => n, fun | 9 => 9 | 4 => 4 | 24 => 32 | 3 => 3 | n => n, fun | n => n⟩
theorem sh_lays103 : Go.Proofs.Lays.n103 Tryz.prog sh_lays103_ren := {
  mixed := by kernel_rfl
  f103 := Tryz.func14.trans (congrArg some (by kernel_rfl))
  f206 := Tryz.func82.trans (congrArg some (by kernel_rfl))
  f210 := Tryz.func37.trans (congrArg some (by kernel_rfl))
  t3 := Tryz.underlying3
  a3 := Tryz.isAgg3
  z3 := Tryz.sizeOf3
  v3 := Tryz.zeroValue3
  t4 := Tryz.underlying4
  a4 := Tryz.isAgg4
  z4 := Tryz.sizeOf4
  v4 := Tryz.zeroValue4
  t9 := Tryz.underlying9
  a9 := Tryz.isAgg9
  z9 := Tryz.sizeOf9
  v9 := Tryz.zeroValue9
  t24 := Tryz.underlying32
  a24 := Tryz.isAgg32
  z24 := Tryz.sizeOf32
  v24 := Tryz.zeroValue32 }
open Go.RowKit in
theorem sh_strings_CutPrefix (s p : ByteArray) (w : World) :
    Calls Tryz.prog 14 #[.string s, .string p] w fun e w' => e = .returned (.tuple #[.string ⟨(Lib.trimPrefix s.data.toList p.data.toList).toArray⟩, .bool (Lib.hasPrefix s.data.toList p.data.toList)]) ∧ w' = w := Any.strings_CutPrefix sh_lays103 s p w
def sh_laysM171_ren : Go.Shelf.Ren := ⟨fun | 171 => 85 | 243 => 153 | 246 => 196 | 283 => 222 | 284 => 223 | 285 => 224 | 286 => 225 | 129 => 240 | 317 => 239 | 318 => 241 | 319 => 242 | 320 => 243 | 337 => 250 | 338 => 251 | n => n, fun | 3 => 3 | 9 => 9 | 2 => 2 | 4 => 4 | 171 => 169 | 0 => 0 | 53 => 136 | 37 => 90 | 5 => 5 | 173 => 172 | 212 => 183 | 51 => 153 | 20 => 20 | 213 => 184 | 46 => 118 | 232 => 191 | 233 => 192 | n => n, fun | 17 => 5 | 18 => 6 | 19 => 7 | n => n⟩
theorem sh_laysM171 : Go.Proofs.LaysM.n171 Tryz.prog sh_laysM171_ren := {
  mixed := by kernel_rfl
  f129 := Tryz.func240.trans (congrArg some (by kernel_rfl))
  f171 := Tryz.func85.trans (congrArg some (by kernel_rfl))
  f243 := Tryz.func153.trans (congrArg some (by kernel_rfl))
  f246 := Tryz.func196.trans (congrArg some (by kernel_rfl))
  f283 := Tryz.func222.trans (congrArg some (by kernel_rfl))
  f284 := Tryz.func223.trans (congrArg some (by kernel_rfl))
  f285 := Tryz.func224.trans (congrArg some (by kernel_rfl))
  f286 := Tryz.func225.trans (congrArg some (by kernel_rfl))
  f317 := Tryz.func239.trans (congrArg some (by kernel_rfl))
  f318 := Tryz.func241.trans (congrArg some (by kernel_rfl))
  f319 := Tryz.func242.trans (congrArg some (by kernel_rfl))
  f320 := Tryz.func243.trans (congrArg some (by kernel_rfl))
  f337 := Tryz.func250.trans (congrArg some (by kernel_rfl))
  f338 := Tryz.func251.trans (congrArg some (by kernel_rfl))
  t0 := Tryz.underlying0
  a0 := Tryz.isAgg0
  z0 := Tryz.sizeOf0
  v0 := Tryz.zeroValue0
  t2 := Tryz.underlying2
  a2 := Tryz.isAgg2
  z2 := Tryz.sizeOf2
  v2 := Tryz.zeroValue2
  t3 := Tryz.underlying3
  a3 := Tryz.isAgg3
  z3 := Tryz.sizeOf3
  v3 := Tryz.zeroValue3
  t4 := Tryz.underlying4
  a4 := Tryz.isAgg4
  z4 := Tryz.sizeOf4
  v4 := Tryz.zeroValue4
  t5 := Tryz.underlying5
  a5 := Tryz.isAgg5
  z5 := Tryz.sizeOf5
  v5 := Tryz.zeroValue5
  t9 := Tryz.underlying9
  a9 := Tryz.isAgg9
  z9 := Tryz.sizeOf9
  v9 := Tryz.zeroValue9
  t20 := Tryz.underlying20
  a20 := Tryz.isAgg20
  z20 := Tryz.sizeOf20
  v20 := Tryz.zeroValue20
  t37 := Tryz.underlying90
  a37 := Tryz.isAgg90
  z37 := Tryz.sizeOf90
  v37 := Tryz.zeroValue90
  t46 := Tryz.underlying118
  a46 := Tryz.isAgg118
  z46 := Tryz.sizeOf118
  v46 := Tryz.zeroValue118
  t51 := Tryz.underlying153
  a51 := Tryz.isAgg153
  z51 := Tryz.sizeOf153
  v51 := Tryz.zeroValue153
  t53 := Tryz.underlying136
  a53 := Tryz.isAgg136
  z53 := Tryz.sizeOf136
  v53 := Tryz.zeroValue136
  t171 := Tryz.underlying169
  a171 := Tryz.isAgg169
  z171 := Tryz.sizeOf169
  v171 := Tryz.zeroValue169
  t173 := Tryz.underlying172
  a173 := Tryz.isAgg172
  z173 := Tryz.sizeOf172
  v173 := Tryz.zeroValue172
  t212 := Tryz.underlying183
  a212 := Tryz.isAgg183
  z212 := Tryz.sizeOf183
  v212 := Tryz.zeroValue183
  t213 := Tryz.underlying184
  a213 := Tryz.isAgg184
  z213 := Tryz.sizeOf184
  t232 := Tryz.underlying191
  a232 := Tryz.isAgg191
  z232 := Tryz.sizeOf191
  v232 := Tryz.zeroValue191
  t233 := Tryz.underlying192
  a233 := Tryz.isAgg192
  z233 := Tryz.sizeOf192
  v233 := Tryz.zeroValue192
  g17 := by kernel_rfl
  g18 := by kernel_rfl
  g19 := by kernel_rfl
  i0 := by kernel_rfl
  i2 := by kernel_rfl
  i3 := by kernel_rfl
  i4 := by kernel_rfl
  i5 := by kernel_rfl
  i9 := by kernel_rfl
  i20 := by kernel_rfl
  i37 := by kernel_rfl
  i46 := by kernel_rfl
  i51 := by kernel_rfl
  i53 := by kernel_rfl
  i171 := by kernel_rfl
  i173 := by kernel_rfl
  i212 := by kernel_rfl
  i232 := by kernel_rfl
  i233 := by kernel_rfl
  m17 := by kernel_rfl
  m18 := by kernel_rfl
  m19 := by kernel_rfl }
open Go.RowKit Go.Sort Go.Lib in
theorem sh_strconv_Itoa (n : Int) (h0 : -9223372036854775808 ≤ n) (h1 : n ≤ 9223372036854775807) (w : World) (htab : Lib.TabIs Tryz.prog w "internal/strconv.uint64pow10" .u64 Lib.pow10Tab) :
    Calls Tryz.prog 85 #[.int .i64 n] w fun e w' => e = .returned (.string ⟨(Lib.itoa n).toArray⟩) ∧ ∃ k os, w' = grow (w.drewN k) os := Any.strconv_Itoa sh_laysM171 n h0 h1 w htab
def sh_laysC172_ren : Go.Shelf.Ren := ⟨fun | 172 => 38 | 244 => 83 | 245 => 84 | 247 => 148 | 279 => 149 | 280 => 150 | 281 => 151 | 282 => 152 | 287 => 193 | 316 => 194 | 171 => 85 | 205 => 195 | 321 => 220 | 322 => 221 | 243 => 153 | 246 => 196 | 283 => 222 | 284 => 223 | 285 => 224 | 286 => 225 | 129 => 240 | 317 => 239 | 318 => 241 | 319 => 242 | 320 => 243 | 337 => 250 | 338 => 251 | n => n, fun | 9 => 9 | 3 => 3 | 75 => 62 | 76 => 63 | 4 => 4 | 5 => 5 | 167 => 110 | 37 => 90 | 0 => 0 | 85 => 111 | 2 => 2 | 168 => 113 | 53 => 136 | 175 => 137 | 46 => 118 | 210 => 141 | 127 => 165 | 145 => 168 | 143 => 166 | 21 => 21 | 171 => 169 | 173 => 172 | 212 => 183 | 51 => 153 | 20 => 20 | 213 => 184 | 232 => 191 | 233 => 192 | 80 => 148 | n => n, fun | 15 => 1 | 16 => 2 | 17 => 5 | 18 => 6 | 19 => 7 | n => n⟩
theorem sh_laysC172 : Go.Proofs.LaysC.n172 Tryz.prog sh_laysC172_ren := {
  mixed := by kernel_rfl
  f129 := Tryz.func240.trans (congrArg some (by kernel_rfl))
  f171 := Tryz.func85.trans (congrArg some (by kernel_rfl))
  f172 := Tryz.func38.trans (congrArg some (by kernel_rfl))
  f205 := Tryz.func195.trans (congrArg some (by kernel_rfl))
  f243 := Tryz.func153.trans (congrArg some (by kernel_rfl))
  f244 := Tryz.func83.trans (congrArg some (by kernel_rfl))
  f245 := Tryz.func84.trans (congrArg some (by kernel_rfl))
  f246 := Tryz.func196.trans (congrArg some (by kernel_rfl))
  f247 := Tryz.func148.trans (congrArg some (by kernel_rfl))
  f279 := Tryz.func149.trans (congrArg some (by kernel_rfl))
  f280 := Tryz.func150.trans (congrArg some (by kernel_rfl))
  f281 := Tryz.func151.trans (congrArg some (by kernel_rfl))
  f282 := Tryz.func152.trans (congrArg some (by kernel_rfl))
  f283 := Tryz.func222.trans (congrArg some (by kernel_rfl))
  f284 := Tryz.func223.trans (congrArg some (by kernel_rfl))
  f285 := Tryz.func224.trans (congrArg some (by kernel_rfl))
  f286 := Tryz.func225.trans (congrArg some (by kernel_rfl))
  f287 := Tryz.func193.trans (congrArg some (by kernel_rfl))
  f316 := Tryz.func194.trans (congrArg some (by kernel_rfl))
  f317 := Tryz.func239.trans (congrArg some (by kernel_rfl))
  f318 := Tryz.func241.trans (congrArg some (by kernel_rfl))
  f319 := Tryz.func242.trans (congrArg some (by kernel_rfl))
  f320 := Tryz.func243.trans (congrArg some (by kernel_rfl))
  f321 := Tryz.func220.trans (congrArg some (by kernel_rfl))
  f322 := Tryz.func221.trans (congrArg some (by kernel_rfl))
  f337 := Tryz.func250.trans (congrArg some (by kernel_rfl))
  f338 := Tryz.func251.trans (congrArg some (by kernel_rfl))
  t0 := Tryz.underlying0
  a0 := Tryz.isAgg0
  z0 := Tryz.sizeOf0
  v0 := Tryz.zeroValue0
  t2 := Tryz.underlying2
  a2 := Tryz.isAgg2
  z2 := Tryz.sizeOf2
  v2 := Tryz.zeroValue2
  t3 := Tryz.underlying3
  a3 := Tryz.isAgg3
  z3 := Tryz.sizeOf3
  v3 := Tryz.zeroValue3
  t4 := Tryz.underlying4
  a4 := Tryz.isAgg4
  z4 := Tryz.sizeOf4
  v4 := Tryz.zeroValue4
  t5 := Tryz.underlying5
  a5 := Tryz.isAgg5
  z5 := Tryz.sizeOf5
  v5 := Tryz.zeroValue5
  t9 := Tryz.underlying9
  a9 := Tryz.isAgg9
  z9 := Tryz.sizeOf9
  v9 := Tryz.zeroValue9
  t20 := Tryz.underlying20
  a20 := Tryz.isAgg20
  z20 := Tryz.sizeOf20
  v20 := Tryz.zeroValue20
  t21 := Tryz.underlying21
  a21 := Tryz.isAgg21
  z21 := Tryz.sizeOf21
  v21 := Tryz.zeroValue21
  t37 := Tryz.underlying90
  a37 := Tryz.isAgg90
  z37 := Tryz.sizeOf90
  v37 := Tryz.zeroValue90
  t46 := Tryz.underlying118
  a46 := Tryz.isAgg118
  z46 := Tryz.sizeOf118
  v46 := Tryz.zeroValue118
  t51 := Tryz.underlying153
  a51 := Tryz.isAgg153
  z51 := Tryz.sizeOf153
  v51 := Tryz.zeroValue153
  t53 := Tryz.underlying136
  a53 := Tryz.isAgg136
  z53 := Tryz.sizeOf136
  v53 := Tryz.zeroValue136
  t75 := Tryz.underlying62
  a75 := Tryz.isAgg62
  z75 := Tryz.sizeOf62
  v75 := Tryz.zeroValue62
  t76 := Tryz.underlying63
  a76 := Tryz.isAgg63
  z76 := Tryz.sizeOf63
  v76 := Tryz.zeroValue63
  t85 := Tryz.underlying111
  a85 := Tryz.isAgg111
  z85 := Tryz.sizeOf111
  v85 := Tryz.zeroValue111
  t127 := Tryz.underlying165
  a127 := Tryz.isAgg165
  z127 := Tryz.sizeOf165
  v127 := Tryz.zeroValue165
  t143 := Tryz.underlying166
  a143 := Tryz.isAgg166
  z143 := Tryz.sizeOf166
  v143 := Tryz.zeroValue166
  t145 := Tryz.underlying168
  a145 := Tryz.isAgg168
  z145 := Tryz.sizeOf168
  v145 := Tryz.zeroValue168
  t167 := Tryz.underlying110
  a167 := Tryz.isAgg110
  z167 := Tryz.sizeOf110
  v167 := Tryz.zeroValue110
  t168 := Tryz.underlying113
  a168 := Tryz.isAgg113
  z168 := Tryz.sizeOf113
  v168 := Tryz.zeroValue113
  t171 := Tryz.underlying169
  a171 := Tryz.isAgg169
  z171 := Tryz.sizeOf169
  v171 := Tryz.zeroValue169
  t173 := Tryz.underlying172
  a173 := Tryz.isAgg172
  z173 := Tryz.sizeOf172
  v173 := Tryz.zeroValue172
  t175 := Tryz.underlying137
  a175 := Tryz.isAgg137
  z175 := Tryz.sizeOf137
  v175 := Tryz.zeroValue137
  t210 := Tryz.underlying141
  a210 := Tryz.isAgg141
  z210 := Tryz.sizeOf141
  v210 := Tryz.zeroValue141
  t212 := Tryz.underlying183
  a212 := Tryz.isAgg183
  z212 := Tryz.sizeOf183
  v212 := Tryz.zeroValue183
  t213 := Tryz.underlying184
  a213 := Tryz.isAgg184
  z213 := Tryz.sizeOf184
  t232 := Tryz.underlying191
  a232 := Tryz.isAgg191
  z232 := Tryz.sizeOf191
  v232 := Tryz.zeroValue191
  t233 := Tryz.underlying192
  a233 := Tryz.isAgg192
  z233 := Tryz.sizeOf192
  v233 := Tryz.zeroValue192
  g15 := by kernel_rfl
  g16 := by kernel_rfl
  g17 := by kernel_rfl
  g18 := by kernel_rfl
  g19 := by kernel_rfl
  t80 := Tryz.underlying148
  a80 := Tryz.isAgg148
  z80 := Tryz.sizeOf148
  v80 := Tryz.zeroValue148
  i0 := by kernel_rfl
  i2 := by kernel_rfl
  i3 := by kernel_rfl
  i4 := by kernel_rfl
  i5 := by kernel_rfl
  i9 := by kernel_rfl
  i20 := by kernel_rfl
  i21 := by kernel_rfl
  i37 := by kernel_rfl
  i46 := by kernel_rfl
  i51 := by kernel_rfl
  i53 := by kernel_rfl
  i75 := by kernel_rfl
  i76 := by kernel_rfl
  i80 := by kernel_rfl
  i85 := by kernel_rfl
  i127 := by kernel_rfl
  i143 := by kernel_rfl
  i145 := by kernel_rfl
  i167 := by kernel_rfl
  i168 := by kernel_rfl
  i171 := by kernel_rfl
  i173 := by kernel_rfl
  i175 := by kernel_rfl
  i210 := by kernel_rfl
  i212 := by kernel_rfl
  i232 := by kernel_rfl
  i233 := by kernel_rfl
  m15 := by kernel_rfl
  m16 := by kernel_rfl
  m17 := by kernel_rfl
  m18 := by kernel_rfl
  m19 := by kernel_rfl
  c0 := by kernel_rfl
  c2 := by kernel_rfl
  c3 := by kernel_rfl
  c4 := by kernel_rfl
  c5 := by kernel_rfl
  c9 := by kernel_rfl
  c20 := by kernel_rfl
  c21 := by kernel_rfl
  c37 := by kernel_rfl
  c46 := by kernel_rfl
  c51 := by kernel_rfl
  c53 := by kernel_rfl
  c75 := by kernel_rfl
  c76 := by kernel_rfl
  c80 := by kernel_rfl
  c85 := by kernel_rfl
  c127 := by kernel_rfl
  c143 := by kernel_rfl
  c145 := by kernel_rfl
  c167 := by kernel_rfl
  c168 := by kernel_rfl
  c171 := by kernel_rfl
  c173 := by kernel_rfl
  c175 := by kernel_rfl
  c210 := by kernel_rfl
  c212 := by kernel_rfl
  c213 := by kernel_rfl
  c232 := by kernel_rfl
  c233 := by kernel_rfl }
open Go.RowKit in
theorem sh_strconv_Atoi_ok (s : ByteArray) (hmax : s.size ≤ 9223372036854775806) (v : Int) (h : Lib.atoiAll s.data.toList = .ok v) (w : World) :
    Calls Tryz.prog 38 #[.string s] w fun e w' => e = .returned (.tuple #[.int .i64 v, .nilIface]) ∧ (w' = w ∨ ∃ t, w' = Lib.bytesWorld w 5 t) := Any.strconv_Atoi_ok sh_laysC172 s hmax v h w
open Go.RowKit in
theorem sh_strconv_Atoi_bad (s : ByteArray) (hlim : s.size ≤ 281474976710656) (hk : ∀ v, ¬ Lib.atoiAll s.data.toList = .ok v) (hr : ¬ Lib.atoiAll s.data.toList = .range) (ev : Value) (w : World) (hv : w.cell? ⟨1, 0, none⟩ = some ev) (hev : ev = .nilIface ∨ ∃ te pe, ev = .iface te pe) :
    Calls Tryz.prog 38 #[.string s] w fun e w' => ∃ N, e = .returned (.tuple #[.int .i64 (0), .iface 113 (.pointer (some ⟨N, 0, none⟩))]) ∧ w.heap.size ≤ N ∧ w'.heap[N]? = some (.cells #[.string ⟨#[65, 116, 111, 105]⟩, .string s, ev] 141 (0, 0)) ∧ Below w.heap.size w w' := by
  rcases hat : Lib.atoiAll s.data.toList with v | _ | _
  · exact (hk v hat).elim
  · exact Any.strconv_Atoi_syntax sh_laysC172 s hlim hat ev w hv hev
  · exact (hr hat).elim
open Go.RowKit in
theorem sh_strconv_Atoi_range (s : ByteArray) (hlim : s.size ≤ 281474976710656) (h : Lib.atoiAll s.data.toList = .range) (ev : Value) (w : World) (hv : w.cell? ⟨2, 0, none⟩ = some ev) (hev : ev = .nilIface ∨ ∃ te pe, ev = .iface te pe) :
    Calls Tryz.prog 38 #[.string s] w fun e w' => ∃ N, e = .returned (.tuple #[.int .i64 (Lib.atoiSat s.data.toList), .iface 113 (.pointer (some ⟨N, 0, none⟩))]) ∧ w.heap.size ≤ N ∧ w'.heap[N]? = some (.cells #[.string ⟨#[65, 116, 111, 105]⟩, .string s, ev] 141 (0, 0)) ∧ Below w.heap.size w w' := Any.strconv_Atoi_range sh_laysC172 s hlim h ev w hv hev
def sh_lays143_ren : Go.Shelf.Ren := ⟨fun | 143 => 92 | 219 => 93 | 217 => 157 | 225 => 158 | 224 => 159 | 267 => 160 | 266 => 200 | 314 => 201 | n => n, fun | 9 => 9 | 3 => 3 | 4 => 4 | 5 => 5 | 46 => 118 | 146 => 154 | 51 => 153 | n => n, fun | 1 => 0 | n => n⟩
theorem sh_lays143 : Go.Proofs.Lays.n143 Tryz.prog sh_lays143_ren := {
  mixed := by kernel_rfl
  f143 := Tryz.func92.trans (congrArg some (by kernel_rfl))
  f217 := Tryz.func157.trans (congrArg some (by kernel_rfl))
  f219 := Tryz.func93.trans (congrArg some (by kernel_rfl))
  f224 := Tryz.func159.trans (congrArg some (by kernel_rfl))
  f225 := Tryz.func158.trans (congrArg some (by kernel_rfl))
  f266 := Tryz.func200.trans (congrArg some (by kernel_rfl))
  f267 := Tryz.func160.trans (congrArg some (by kernel_rfl))
  f314 := Tryz.func201.trans (congrArg some (by kernel_rfl))
  t3 := Tryz.underlying3
  a3 := Tryz.isAgg3
  z3 := Tryz.sizeOf3
  v3 := Tryz.zeroValue3
  t4 := Tryz.underlying4
  a4 := Tryz.isAgg4
  z4 := Tryz.sizeOf4
  v4 := Tryz.zeroValue4
  t5 := Tryz.underlying5
  a5 := Tryz.isAgg5
  z5 := Tryz.sizeOf5
  v5 := Tryz.zeroValue5
  t9 := Tryz.underlying9
  a9 := Tryz.isAgg9
  z9 := Tryz.sizeOf9
  v9 := Tryz.zeroValue9
  t46 := Tryz.underlying118
  a46 := Tryz.isAgg118
  z46 := Tryz.sizeOf118
  v46 := Tryz.zeroValue118
  t51 := Tryz.underlying153
  a51 := Tryz.isAgg153
  z51 := Tryz.sizeOf153
  v51 := Tryz.zeroValue153
  t146 := Tryz.underlying154
  a146 := Tryz.isAgg154
  z146 := Tryz.sizeOf154
  v146 := Tryz.zeroValue154
  g1 := by kernel_rfl }
open Go.RowKit Go.Lib in
theorem sh_strings_Index_one (s : ByteArray) (c : UInt8) (w : World) :
    Calls Tryz.prog 92 #[.string s, .string ⟨#[c]⟩] w fun e w' => e = .returned (.int .i64 (Lib.indexByte s.data.toList c)) ∧ w' = w := Any.strings_Index_one sh_lays143 s c w
def sh_lays145_ren : Go.Shelf.Ren := ⟨fun | 145 => 18 | 220 => 43 | 219 => 93 | 217 => 157 | 225 => 158 | 224 => 159 | 267 => 160 | 266 => 200 | 314 => 201 | n => n, fun | 9 => 9 | 4 => 4 | 59 => 39 | 3 => 3 | 5 => 5 | 46 => 118 | 146 => 154 | 51 => 153 | n => n, fun | 1 => 0 | n => n⟩
theorem sh_lays145 : Go.Proofs.Lays.n145 Tryz.prog sh_lays145_ren := {
  mixed := by kernel_rfl
  f145 := Tryz.func18.trans (congrArg some (by kernel_rfl))
  f217 := Tryz.func157.trans (congrArg some (by kernel_rfl))
  f219 := Tryz.func93.trans (congrArg some (by kernel_rfl))
  f220 := Tryz.func43.trans (congrArg some (by kernel_rfl))
  f224 := Tryz.func159.trans (congrArg some (by kernel_rfl))
  f225 := Tryz.func158.trans (congrArg some (by kernel_rfl))
  f266 := Tryz.func200.trans (congrArg some (by kernel_rfl))
  f267 := Tryz.func160.trans (congrArg some (by kernel_rfl))
  f314 := Tryz.func201.trans (congrArg some (by kernel_rfl))
  t3 := Tryz.underlying3
  a3 := Tryz.isAgg3
  z3 := Tryz.sizeOf3
  v3 := Tryz.zeroValue3
  t4 := Tryz.underlying4
  a4 := Tryz.isAgg4
  z4 := Tryz.sizeOf4
  v4 := Tryz.zeroValue4
  t5 := Tryz.underlying5
  a5 := Tryz.isAgg5
  z5 := Tryz.sizeOf5
  v5 := Tryz.zeroValue5
  t9 := Tryz.underlying9
  a9 := Tryz.isAgg9
  z9 := Tryz.sizeOf9
  v9 := Tryz.zeroValue9
  t46 := Tryz.underlying118
  a46 := Tryz.isAgg118
  z46 := Tryz.sizeOf118
  v46 := Tryz.zeroValue118
  t51 := Tryz.underlying153
  a51 := Tryz.isAgg153
  z51 := Tryz.sizeOf153
  v51 := Tryz.zeroValue153
  t59 := Tryz.underlying39
  a59 := Tryz.isAgg39
  z59 := Tryz.sizeOf39
  v59 := Tryz.zeroValue39
  t146 := Tryz.underlying154
  a146 := Tryz.isAgg154
  z146 := Tryz.sizeOf154
  v146 := Tryz.zeroValue154
  g1 := by kernel_rfl }
open Go.RowKit Go.Lib in
theorem sh_strings_Cut (s sep : ByteArray) (m : Int) (w : World) (hs : s.size < 4294967281) (hm : w.cell? ⟨0, 0, none⟩ = some (.int .i64 m)) :
    Calls Tryz.prog 18 #[.string s, .string sep] w fun e w' => e = .returned (.tuple #[.string ⟨(Lib.cut s.data.toList sep.data.toList).1.toArray⟩, .string ⟨(Lib.cut s.data.toList sep.data.toList).2.1.toArray⟩, .bool (Lib.cut s.data.toList sep.data.toList).2.2]) ∧ ∃ n, w' = w.drewN n := Any.strings_Cut sh_lays145 s sep m w hs hm
end Go.Proofs.YtaanppihgldeaaaGreatDoor
