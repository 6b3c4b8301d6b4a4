/- The text of a ranking: both sides. Fractions of two numbers that are not negative. Profiles in memory: votes with a ranking and a count. Profiles, the program's side: ProfileOk, voters, pair, margin, beats. -/
import Derived.Test.YtaanppihgldeaaaGreatDoorW02
import Derived.Test.YtaanppihgldeaaaGreatDoorW03
import Derived.ShutString
namespace Go.Proofs.YtaanppihgldeaaaGreatDoor
set_option linter.unusedSimpArgs false
set_option linter.unusedVariables false
set_option linter.unusedVariables false
open Go.RowKit

theorem rankText_len {n : Nat} {xs : List Int} (h : rankOk n xs = true) : xs.length = n := by have := (rankOk_facts h).2.2.1; omega
theorem rankNums_take {xs : List Int} {k : Nat} (h : k < xs.length) : rankNums (xs.take (k + 1)) = rankNums (xs.take k) ++ [97 + ix xs k] := by unfold rankNums; rw [take_ix h]; simp
theorem letter_any (a : Int) (w : World) (h0 : 0 ≤ a) (h1 : a ≤ 100) : Calls Tryz.prog 94 #[.int .i64 a] w fun e w' => e = .returned (.string (strOfNums [97 + a])) ∧ Below w.heap.size w w' := by
  have hw : IntKind.u8.wrap (97 + a) = 97 + a := by rw [IntKind.wrap_u8]; omega
  have hb := (Below.refl w.heap.size w).alloc (Nat.le_refl _) (.cells #[.int .u8 (97 + a)] 5)
  have hc := run_convert_bytes_arg (P := Tryz.prog) (w.alloc (.cells #[.int .u8 (97 + a)] 5)) 90 5 Tryz.underlying90 Tryz.underlying5 w.heap.size 0 1 1 [97 + a] rfl (fun i hi => by
    obtain rfl : i = 0 := by omega
    rw [new_cell _ _ _ rfl]; rfl) 9 Tryz.underlying9
  go_enter Tryz.func94, Tryz.ntmps94
  go_wp2
  go_ret
  exact ⟨rfl, hb⟩
set_option maxHeartbeats 800000 in
theorem specFormatRanking {m : Nat} (A : Option Addr) (n c : Nat) (xs : List Int) (w : World) (h : IntsAt w A n xs) (hc : n ≤ c) (hr : rankOk m xs = true) :
    Calls Tryz.prog 50 #[.slice A n c] w fun e w' => e = .returned (.string (strOfNums (rankNums xs))) ∧ Below w.heap.size w w' := by
  obtain rfl := h.len
  have hl := rankText_len hr
  have F := Lib.hid (rankOk_facts hr)
  have h5 : xs.length ≤ 5 := by have := F.out.2.1; omega
  have hr' : rankOk (xs.length : Int) xs = true := by rw [hl]; exact hr
  have HR := Lib.hid hr'
  have H0 : Hid (strOfNums (rankNums (xs.take 0)) = ⟨#[]⟩) := rfl
  have HS := Lib.hid (fun k (hk : k < xs.length) => (by rw [str_append, ← rankNums_take hk] : strOfNums (rankNums (xs.take k)) ++ strOfNums [97 + ix xs k] = strOfNums (rankNums (xs.take (k + 1)))))
  have HE : Hid (strOfNums (rankNums (xs.take xs.length)) = strOfNums (rankNums xs)) := by show _ = _; rw [List.take_length]
  have HZ := Lib.hid (fun k => (by rw [strOfNums_size]; simp [rankNums]; omega : (strOfNums (rankNums (xs.take k))).size ≤ 5))
  obtain ⟨T, hT⟩ : ∃ T : Nat → ByteArray, ∀ k, strOfNums (rankNums (xs.take k)) = T k := ⟨_, fun _ => rfl⟩
  simp only [hT] at H0 HS HE HZ
  clear hr hr' hl hT
  go_enter Tryz.func50, Tryz.ntmps50
  go_wp2_with fail
  (with_reducible refine (specRankingOk _ _ _ _ _ _ h (by omega) hc).mono ?_)
  rintro e w1 ⟨rfl, hb⟩
  rw [HR.out]
  go_wp2
  go_loopw [3, 5, 13] (fun v _ i_ wr => ∃ k : Nat, k ≤ xs.length ∧ i_ = .int .i64 k ∧ v = .string (T k) ∧ Below w.heap.size w wr) (fun _ _ i_ _ => xs.length - (intOf i_).toNat)
  case atStart => exact ⟨0, Nat.zero_le _, rfl, by rw [H0.out], hb⟩
  case round =>
    obtain ⟨k, hk, rfl, rfl, hbr⟩ := hrel
    have zr := hbr.size
    by_cases hlt : k < xs.length
    · obtain ⟨b, o, rfl, _, hcx⟩ := (h.below hbr).at_ hlt
      have cx := hcx k hlt
      have xb := F.out.2.2.2 k hlt
      have f2 := F.out.2.1
      clear hcx
      have HS2 := Lib.hid (HS.out k hlt)
      generalize ix xs k = x at *
      go_wp2_with fail
      (with_reducible refine (letter_any x _ xb.1 (by omega)).mono ?_)
      rintro e w3 ⟨rfl, hb3⟩
      have hbn := hbr.trans (hb3.mono zr)
      clear hb3 hbr cx
      have hsz : (T k).size + (strOfNums [97 + x]).size ≤ 9223372036854775807 := by have := HZ.out k; have e : (strOfNums [97 + x]).size = 1 := strOfNums_size _; omega
      go_wp2
      go_roundw
      case rel => exact ⟨k + 1, by omega, by go_num, by rw [HS2.out], hbn⟩
      case measure => simp [intOf]; omega
    · obtain rfl : k = xs.length := by omega
      rw [HE.out]
      go_wp2
      go_ret
      exact ⟨rfl, hbr⟩
theorem infoY : (Tryz.prog.info? 5).map (fun i => (i.zero, i.size, i.bytes)) = some (some (.int .u8 0), 1, 1) := by kernel_rfl
section
variable {ops : Array Oper} {rest : List Oper} {o : Oper} {a : Act} {Q : Exit → Act → World → Prop}
/-- 'make([]byte, n)' -/
theorem wpList_make_bytes (w : World) (hg : o.guard = none) (l c : Operand) (hop : o.op = Op.makeSlice 90 l c) (n : Nat)
    (hl : a.eval l = .int .i64 (n : Int)) (hc : a.eval c = .int .i64 (n : Int)) (hn : n ≤ 1099511627776)
    (hK : ∀ w', w'.ownsRow w.heap.size 5 1 (.slice (some ⟨w.heap.size, 0, none⟩) n n) n (List.replicate n (.int .u8 0)) → Below w.heap.size w w' → w'.heap.size = w.heap.size + 1 → wpList Tryz.prog ops Q rest (a.put o.dst (.slice (some ⟨w.heap.size, 0, none⟩) n n)) w') :
    wpList Tryz.prog ops Q (o :: rest) a w := by
  obtain ⟨i0, hi, hz0, hz1, hz2⟩ := info_parts infoY
  refine wpList_plain hg fun K hK' => ?_
  have hrun := run_make (P := Tryz.prog) w 90 5 i0 (.int .u8 0) Tryz.underlying90 hi hz0 .i64 .i64 n n (by omega) (by omega) (by rw [hz2]; omega) (by omega)
  simp only [Int.toNat_natCast, hz1, Nat.mul_one] at hrun
  unfold Oper.wp
  simp [execOp, hop, hl, hc, hrun, Result.andThen]
  refine hK' _ _ (hK _ ?_ ((Below.refl _ _).alloc (Nat.le_refl _) _) (by simp))
  have h1 := World.ownsRow_lit (e := 5) (size := 1) (base := w.heap.size) w (madeCells #[Value.int .u8 0] n) n (Nat.le_refl _) (by unfold maxLen; omega) (by simp [size_madeCells])
  rw [toList_madeCells_one] at h1
  simpa [Value.cells] using h1
end
/-- the bytes after k letters are laid -/
def bytesTo (xs : List Int) (k : Nat) : List Value := (rankNums (xs.take k)).map (Value.int .u8) ++ List.replicate (xs.length - k) (.int .u8 0)
theorem bytesTo_step {xs : List Int} {k : Nat} (h : k < xs.length) : (bytesTo xs k).set k (.int .u8 (97 + ix xs k)) = bytesTo xs (k + 1) := by
  have hl : ((rankNums (xs.take k)).map (Value.int IntKind.u8)).length = k := by simp [rankNums]; omega
  unfold bytesTo
  rw [List.set_append_right _ _ (by omega), hl, Nat.sub_self, show xs.length - k = (xs.length - (k + 1)) + 1 by omega, List.replicate_succ, List.set_cons_zero, rankNums_take h, List.map_append, List.append_assoc]
  rfl
theorem bytesTo_end (xs : List Int) : bytesTo xs xs.length = (rankNums xs).map (Value.int .u8) := by unfold bytesTo; simp
theorem bytesTo_0 (xs : List Int) : bytesTo xs 0 = List.replicate xs.length (.int .u8 0) := by simp [bytesTo, rankNums]
set_option maxHeartbeats 800000 in
theorem implFormatRanking {m : Nat} (A : Option Addr) (n c : Nat) (xs : List Int) (w : World) (h : IntsAt w A n xs) (hc : n ≤ c) (hr : rankOk m xs = true) :
    Calls Tryz.prog 88 #[.slice A n c] w fun e w' => e = .returned (.string (strOfNums (rankNums xs))) ∧ Below w.heap.size w w' := by
  obtain rfl := h.len
  have hl := rankText_len hr
  have F := Lib.hid (rankOk_facts hr)
  have h5 : xs.length ≤ 5 := by have := F.out.2.1; omega
  have hr' : rankOk (xs.length : Int) xs = true := by rw [hl]; exact hr
  have HR := Lib.hid hr'
  clear hr hr' hl
  go_enter Tryz.func88, Tryz.ntmps88
  go_wp2_with fail
  (with_reducible refine (isRanking_any _ _ _ _ _ h (by omega) hc).mono ?_)
  rintro e w1 ⟨rfl, rfl⟩
  rw [HR.out]
  go_wp2_with ((with_reducible refine wpList_make_bytes _ rfl _ _ rfl xs.length rfl rfl (by omega) ?_))
  intro w2 ho hb hs2
  rw [← bytesTo_0] at ho
  have z2 := hb.size
  have hs3 : w.heap.size < w2.heap.size := by omega
  clear hs2
  go_wp2
  go_loopw [4, 5, 14] (fun _ _ i_ wr => ∃ k : Nat, k ≤ xs.length ∧ i_ = .int .i64 k ∧ wr.ownsRow w.heap.size 5 1 (.slice (some ⟨w.heap.size, 0, none⟩) xs.length xs.length) xs.length (bytesTo xs k) ∧ Below w.heap.size w wr) (fun _ _ i_ _ => xs.length - (intOf i_).toNat)
  case atStart => exact ⟨0, Nat.zero_le _, rfl, ho, hb⟩
  case round =>
    obtain ⟨k, hk, rfl, hown, hbr⟩ := hrel
    have zr := hbr.size
    by_cases hlt : k < xs.length
    · obtain ⟨b, o, rfl, _, hcx⟩ := (h.below hbr).at_ hlt
      have cx := hcx k hlt
      have xb := F.out.2.2.2 k hlt
      have f2 := F.out.2.1
      clear hcx
      have cp := World.ownsRow.cellAt hown k (by omega)
      have fp := World.ownsRow.frozenAt hown k
      have hst := World.ownsRow.stored hown k (.int .u8 (97 + ix xs k))
      rw [bytesTo_step hlt] at hst
      have HO := Lib.hid hst.1
      have HB := Lib.hid (hbr.grown hst.2 zr (fun j e => by cases e; exact Nat.le_refl _))
      clear hst hown hbr
      have hw : IntKind.u8.wrap (97 + ix xs k) = 97 + ix xs k := by rw [IntKind.wrap_u8]; omega
      obtain ⟨vv, hvv⟩ : ∃ vv, (bytesTo xs k)[k]? = some vv := ⟨_, List.getElem?_eq_getElem (by unfold bytesTo; simp [rankNums]; omega)⟩
      rw [hvv] at cp
      clear hvv
      generalize ix xs k = x at *
      go_wp2
      go_roundw
      case rel => exact ⟨k + 1, by omega, by go_num, HO.out, HB.out⟩
      case measure => simp [intOf]; omega
    · obtain rfl : k = xs.length := by omega
      rw [bytesTo_end] at hown
      have hcv := run_convert_bytes_arg (P := Tryz.prog) wr 90 5 Tryz.underlying90 Tryz.underlying5 w.heap.size 0 xs.length xs.length (rankNums xs) (by simp [rankNums]) (fun i hi => by
        have := World.ownsRow.cellAt hown i (by omega)
        rw [Nat.zero_add, this]
        have hi2 : i < (rankNums xs).length := by simp [rankNums]; exact hi
        simp [List.getD, hi2]) 9 Tryz.underlying9
      go_wp2
      go_ret
      exact ⟨rfl, hbr⟩
end Go.Proofs.YtaanppihgldeaaaGreatDoor
namespace Go.Proofs.YtaanppihgldeaaaGreatDoor
set_option linter.unusedSimpArgs false
set_option linter.unusedVariables false
set_option linter.unusedVariables false
open Go.RowKit

theorem gcd_step (p q : Nat) : Nat.gcd q (p % q) = Nat.gcd p q := by
  rw [Nat.gcd_comm q, ← Nat.gcd_rec, Nat.gcd_comm]



/-- the fraction of two numbers is in lowest terms, and its terms are small -/
def fracOk (a b : Nat) : Bool := inB (a : Int) (-1000000000) 1000000000 && inB (b : Int) 1 1000000000 && ((Nat.gcd a b : Nat) : Int) == 1

/-- the fraction t / b in lowest terms, and true; else no fraction and false -/
def redTop (t b : Nat) : Nat := if fracOk (t / Nat.gcd t b) (b / Nat.gcd t b) then t / Nat.gcd t b else 0
def redBot (t b : Nat) : Nat := if fracOk (t / Nat.gcd t b) (b / Nat.gcd t b) then b / Nat.gcd t b else 0
def redOk (t b : Nat) : Bool := fracOk (t / Nat.gcd t b) (b / Nat.gcd t b)

end Go.Proofs.YtaanppihgldeaaaGreatDoor
namespace Go.Proofs.YtaanppihgldeaaaGreatDoor
set_option linter.unusedSimpArgs false
set_option linter.unusedVariables false
set_option linter.unusedVariables false
open Go.RowKit

/-- a vote: its ranking and how many voters it has -/
structure Vt where
  r : List Int
  c : Int
/-- vote j of a list of votes, behind a name that the walk does not open -/
def vx (vs : List Vt) (j : Nat) : Vt := vs.getD j ⟨[], 0⟩
theorem vx_lt {vs : List Vt} {j : Nat} (h : j < vs.length) : vx vs j = vs[j] := by unfold vx; simp [List.getD, h]
theorem vx_mem {vs : List Vt} {j : Nat} (h : j < vs.length) : vx vs j ∈ vs := by rw [vx_lt h]; exact List.getElem_mem h
theorem take_vx {vs : List Vt} {k : Nat} (h : k < vs.length) : vs.take (k + 1) = vs.take k ++ [vx vs k] := by
  rw [List.take_succ_eq_append_getElem h, vx_lt h]
/-- the votes vs lie at A -/
def VotesAt (w : World) (A : Option Addr) (n : Nat) (vs : List Vt) : Prop :=
  vs.length = n ∧ (0 < n → ∃ b o, A = some ⟨b, o, none⟩ ∧ ∀ j, j < n → ∃ A' n' c', w.cell? ⟨b, o + j * 2, none⟩ = some (.slice A' n' c') ∧ w.cell? ⟨b, o + j * 2 + 1, none⟩ = some (.int .i64 (vx vs j).c) ∧ n' ≤ c' ∧ IntsAt w A' n' (vx vs j).r)
section
variable {w w' : World} {A : Option Addr} {n B : Nat} {vs : List Vt}
theorem VotesAt.len (h : VotesAt w A n vs) : vs.length = n := h.1
theorem VotesAt.at_ {k : Nat} (h : VotesAt w A n vs) (hk : k < n) : ∃ b o A' c', A = some ⟨b, o, none⟩ ∧ b < w.heap.size ∧ w.cell? ⟨b, o + k * 2, none⟩ = some (.slice A' (vx vs k).r.length c') ∧ w.cell? ⟨b, o + k * 2 + 1, none⟩ = some (.int .i64 (vx vs k).c) ∧ (vx vs k).r.length ≤ c' ∧ IntsAt w A' (vx vs k).r.length (vx vs k).r := by
  obtain ⟨b, o, e, hc⟩ := h.2 (by omega)
  obtain ⟨A', n', c', h1, h2, h3, h4⟩ := hc k hk
  obtain rfl := h4.1
  exact ⟨b, o, A', c', e, cell_lt h1, h1, h2, h3, h4⟩
theorem VotesAt.below (h : VotesAt w A n vs) (hb : Below w.heap.size w w') : VotesAt w' A n vs := by
  refine ⟨h.1, fun hn => ?_⟩
  obtain ⟨b, o, e, hc⟩ := h.2 hn
  refine ⟨b, o, e, fun j hj => ?_⟩
  obtain ⟨A', n', c', h1, h2, h3, h4⟩ := hc j hj
  exact ⟨A', n', c', (hb.cell (p := ⟨b, o + j * 2, none⟩) (cell_lt h1)).trans h1, (hb.cell (p := ⟨b, o + j * 2 + 1, none⟩) (cell_lt h2)).trans h2, h3, h4.below hb⟩
theorem VotesAt.drewN (h : VotesAt w A n vs) (m : Nat) : VotesAt (w.drewN m) A n vs := h
end

/-- the place of the first vote of which p holds, or -1 -/
def idxV (p : Vt → Bool) (vs : List Vt) (k : Nat) : Int := if k < vs.length then (if p (vx vs k) then (k : Int) else idxV p vs (k + 1)) else -1
termination_by vs.length - k
theorem idxV_step (p : Vt → Bool) (vs : List Vt) (k : Nat) (h : k < vs.length) : idxV p vs k = if p (vx vs k) then (k : Int) else idxV p vs (k + 1) := by
  rw [idxV, if_pos h]
theorem idxV_end (p : Vt → Bool) (vs : List Vt) (k : Nat) (h : vs.length ≤ k) : idxV p vs k = -1 := by
  rw [idxV, if_neg (by omega)]
theorem idxV_ge (p : Vt → Bool) (vs : List Vt) : ∀ k, (vs.drop k).any p = decide (0 ≤ idxV p vs k) := by
  intro k
  generalize hd : vs.length - k = d
  induction d generalizing k with
  | zero => rw [idxV_end p vs k (by omega), List.drop_of_length_le (by omega)]; rfl
  | succ d ih =>
    have hk : k < vs.length := by omega
    rw [idxV_step p vs k hk, List.drop_eq_getElem_cons hk, List.any_cons, ← vx_lt hk]
    cases hp : p (vx vs k)
    · simpa using ih (k + 1) (by omega)
    · simp

theorem indexFuncV_any (g : Nat) (lb : Array Value) (p : Vt → Bool) (A : Option Addr) (n c : Nat) (vs : List Vt) (w : World) (h : VotesAt w A n vs) (hn : n ≤ 1099511627776)
    (hen : ∀ (args : Array Value) (w : World), (callFunc g args).run Tryz.prog w = .ok (.enter g args) w)
    (hg : ∀ A' c' v W, v ∈ vs → IntsAt W A' v.r.length v.r → v.r.length ≤ c' → Below w.heap.size w W → Calls Tryz.prog g (#[.agg #[.slice A' v.r.length c', .int .i64 v.c]] ++ lb) W fun e W' => e = .returned (.bool (p v)) ∧ Below W.heap.size W W') :
    Calls Tryz.prog 154 #[.slice A n c, .func (.func g) #[] lb] w fun e w' => e = .returned (.int .i64 (idxV p vs 0)) ∧ Below w.heap.size w w' := by
  go_enter Tryz.func154, Tryz.ntmps154
  go_wp2
  go_loopw [8] (fun i wr => ∃ k : Nat, k ≤ n ∧ i = .int .i64 k ∧ idxV p vs 0 = idxV p vs k ∧ Below w.heap.size w wr) (fun i _ => n - (intOf i).toNat)
  case atStart => exact ⟨0, Nat.zero_le _, rfl, rfl, Below.refl _ _⟩
  case round =>
    obtain ⟨k, hk, rfl, hid, hb⟩ := hrel
    have HI := Lib.hid hid
    clear hid
    have hl := h.len
    by_cases hlt : k < n
    · obtain ⟨b, o, A', c', rfl, hbl, hc1, hc2, hcc, hin⟩ := (h.below hb).at_ hlt
      have hgk := hg A' c' (vx vs k) wr (vx_mem (by omega)) hin hcc hb
      have HG := Lib.hid hgk
      clear hgk hg
      go_wp2_with fail
      refine HG.out.mono ?_
      rintro e w' ⟨rfl, hb'⟩
      have hbb : Below w.heap.size w w' := hb.trans (hb'.mono (hb.size))
      have hstep := idxV_step p vs k (by omega)
      cases hp : p (vx vs k)
      · rw [hp, if_neg (by simp)] at hstep
        go_wp2
        go_roundw
        case rel => exact ⟨k + 1, by omega, by go_num, HI.out.trans hstep, hbb⟩
        case measure => simp [intOf]; omega
      · rw [hp, if_pos rfl] at hstep
        have HS := Lib.hid hstep
        clear hstep
        go_wp2
        go_ret
        exact ⟨ret_i (HI.out.trans HS.out).symm, hbb⟩
    · obtain rfl : k = n := by omega
      have hend := idxV_end p vs k (by omega)
      have HS := Lib.hid hend
      clear hend hg
      go_wp2
      go_ret
      exact ⟨ret_i (HI.out.trans HS.out).symm, hb⟩
end Go.Proofs.YtaanppihgldeaaaGreatDoor
namespace Go.Proofs.YtaanppihgldeaaaGreatDoor
set_option linter.unusedSimpArgs false
set_option linter.unusedVariables false
set_option linter.unusedVariables false
open Go.RowKit

def voteOk (m : Int) (v : Vt) : Bool := rankOk m v.r && inB v.c 1 1000
def profOk (m : Int) (vs : List Vt) : Bool := inB m 1 5 && decide (vs.length ≤ 24) && vs.all (voteOk m)
/-- the voters of the first k votes whose ranking is wanted -/
def vtsTo (f : List Int → Bool) (vs : List Vt) : Nat → Int
  | 0 => 0
  | k + 1 => vtsTo f vs k + (if f (vx vs k).r then (vx vs k).c else 0)
def vts (f : List Int → Bool) (vs : List Vt) : Int := vtsTo f vs vs.length
theorem vtsTo_bd {f : List Int → Bool} {vs : List Vt} (hc : ∀ v ∈ vs, 0 ≤ v.c ∧ v.c ≤ 1000) : ∀ k, k ≤ vs.length → 0 ≤ vtsTo f vs k ∧ vtsTo f vs k ≤ 1000 * k
  | 0, _ => by simp [vtsTo]
  | k + 1, h => by
    have ih := vtsTo_bd (f := f) hc k (by omega)
    have := hc _ (vx_mem (vs := vs) (j := k) (by omega))
    rw [vtsTo]; split <;> omega
def pairP (vs : List Vt) (a b : Int) : Int := vts (fun r => pref r a b) vs
def marginP (vs : List Vt) (a b : Int) : Int := pairP vs a b - pairP vs b a
def beatsP (vs : List Vt) (a b : Int) : Bool := decide (0 < marginP vs a b)
def votersP (vs : List Vt) : Int := vts (fun _ => true) vs
theorem vts_bd {f : List Int → Bool} {vs : List Vt} (hc : ∀ v ∈ vs, 0 ≤ v.c ∧ v.c ≤ 1000) (hn : vs.length ≤ 24) : 0 ≤ vts f vs ∧ vts f vs ≤ 24000 := by
  have := vtsTo_bd (f := f) hc vs.length (Nat.le_refl _)
  unfold vts; omega
/-- what every valid profile has -/
structure PF (m : Int) (vs : List Vt) : Prop where
  m1 : 1 ≤ m
  m5 : m ≤ 5
  n : vs.length ≤ 24
  r : ∀ v ∈ vs, rankOk m v.r = true
  c : ∀ v ∈ vs, 0 ≤ v.c ∧ v.c ≤ 1000
  c1 : ∀ v ∈ vs, 1 ≤ v.c
  l : ∀ v ∈ vs, (v.r.length : Int) = m
theorem pf_of {m : Int} {vs : List Vt} (h : profOk m vs = true) : PF m vs := by
  unfold profOk at h
  rw [Bool.and_eq_true, Bool.and_eq_true, inB_iff, decide_eq_true_eq, List.all_eq_true] at h
  have hv : ∀ v ∈ vs, rankOk m v.r = true ∧ (1 ≤ v.c ∧ v.c ≤ 1000) := fun v hv => by
    have := h.2 v hv
    unfold voteOk at this
    rw [Bool.and_eq_true, inB_iff] at this
    exact this
  refine ⟨h.1.1.1, h.1.1.2, h.1.2, fun v m => (hv v m).1, fun v m => by have := (hv v m).2; omega, fun v m => (hv v m).2.1, fun v m => ?_⟩
  have := (hv v m).1
  unfold rankOk at this
  rw [Bool.and_eq_true, Bool.and_eq_true, decide_eq_true_eq] at this
  exact this.1.2
theorem not_any_ok (m : Int) (vs : List Vt) : (!(vs.any fun v => !voteOk m v)) = vs.all (voteOk m) := by
  rw [List.not_any_eq_all_not]
  congr 1
  funext x
  simp
/-- the struct of a profile lies in block g -/
structure PBox (w : World) (g : Nat) (m : Int) (A : Option Addr) (n c : Nat) : Prop where
  c0 : w.cell? ⟨g, 0, none⟩ = some (.int .i64 m)
  c1 : w.cell? ⟨g, 1, none⟩ = some (.slice A n c)
theorem PBox.lt {w : World} {g : Nat} {m : Int} {A : Option Addr} {n c : Nat} (h : PBox w g m A n c) : g < w.heap.size := cell_lt h.c0
theorem PBox.below {w w' : World} {g : Nat} {m : Int} {A : Option Addr} {n c : Nat} (h : PBox w g m A n c) (hb : Below w.heap.size w w') : PBox w' g m A n c := ⟨cell_carry hb h.c0, cell_carry hb h.c1⟩
theorem PBox.new (w : World) (m : Int) (A : Option Addr) (n c : Nat) (t : TypeId) {g : Nat} (hg : g = w.heap.size) : PBox (w.alloc (.cells #[.int .i64 m, .slice A n c] t)) g m A n c :=
  ⟨(new_pair w _ _ t hg).1, (new_pair w _ _ t hg).2⟩
theorem alloc_below (w : World) (o : Obj) : Below w.heap.size w (w.alloc o) := (Below.refl _ _).alloc (Nat.le_refl _) o

theorem containsFuncV_any (g : Nat) (lb : Array Value) (p : Vt → Bool) (A : Option Addr) (n c : Nat) (vs : List Vt) (w : World) (h : VotesAt w A n vs) (hn : n ≤ 1099511627776)
    (hen : ∀ (args : Array Value) (w : World), (callFunc g args).run Tryz.prog w = .ok (.enter g args) w)
    (hg : ∀ A' c' v W, v ∈ vs → IntsAt W A' v.r.length v.r → v.r.length ≤ c' → Below w.heap.size w W → Calls Tryz.prog g (#[.agg #[.slice A' v.r.length c', .int .i64 v.c]] ++ lb) W fun e W' => e = .returned (.bool (p v)) ∧ Below W.heap.size W W') :
    Calls Tryz.prog 86 #[.slice A n c, .func (.func g) #[] lb] w fun e w' => e = .returned (.bool (vs.any p)) ∧ Below w.heap.size w w' := by
  have hH := indexFuncV_any g lb p A n c vs w h hn hen hg
  have HG := Lib.hid hH
  clear hH hg
  have he := idxV_ge p vs 0
  rw [List.drop_zero] at he
  have HE := Lib.hid he
  clear he
  go_enter Tryz.func86, Tryz.ntmps86
  go_wp2_with fail
  refine HG.out.mono ?_
  rintro e w' ⟨rfl, hb'⟩
  go_wp2
  go_ret
  exact ⟨ret_b HE.out.symm, hb'⟩
theorem profileOk1 (m : Int) (v : Vt) (A' : Option Addr) (c' g : Nat) (W : World) (x0 : W.cell? ⟨g, 0, none⟩ = some (.int .i64 m)) (hin : IntsAt W A' v.r.length v.r) (hl : v.r.length ≤ 1048576) (hcc : v.r.length ≤ c') :
    Calls Tryz.prog 87 #[.agg #[.slice A' v.r.length c', .int .i64 v.c], .pointer (some ⟨g, 0, none⟩)] W fun e W' => e = .returned (.bool (!voteOk m v)) ∧ Below W.heap.size W W' := by
  have b0 := alloc_below W (.cells #[.slice A' v.r.length c', .int .i64 v.c] 44)
  obtain ⟨v0, v1⟩ := new_pair W (.slice A' v.r.length c') (.int .i64 v.c) 44 rfl
  replace x0 := cell_carry b0 x0
  replace hin := hin.below b0
  have K := Lib.hid (implRankingOk m A' v.r.length c' v.r _ hin hl hcc)
  unfold voteOk
  generalize rankOk m v.r = q at *
  cases q
  · go_enter Tryz.func87, Tryz.ntmps87
    go_wp2_with fail
    (with_reducible refine K.out.mono ?_)
    rintro e w1 ⟨rfl, rfl⟩
    go_wp2_with fail
    go_ret
    exact ⟨rfl, b0⟩
  · go_enter Tryz.func87, Tryz.ntmps87
    go_wp2_with fail
    (with_reducible refine K.out.mono ?_)
    rintro e w1 ⟨rfl, rfl⟩
    go_wp2_with fail
    (with_reducible refine (within_any _ _ _ _).mono ?_)
    rintro e w1 ⟨rfl, rfl⟩
    go_wp2_with fail
    go_ret
    exact ⟨by simp, b0⟩
set_option maxHeartbeats 400000 in
theorem implProfileOk (m : Int) (A : Option Addr) (n c : Nat) (vs : List Vt) (w : World) (h : VotesAt w A n vs) (hn : n ≤ 1048576) (hx : ∀ v ∈ vs, v.r.length ≤ 1048576) :
    Calls Tryz.prog 40 #[.agg #[.int .i64 m, .slice A n c]] w fun e w' => e = .returned (.bool (profOk m vs)) ∧ Below w.heap.size w w' := by
  obtain rfl := h.len
  have b0 := alloc_below w (.cells #[.int .i64 m, .slice A vs.length c] 24)
  obtain ⟨x0, x1⟩ := PBox.new w m A vs.length c 24 rfl
  replace h := h.below b0
  have K := Lib.hid (containsFuncV_any 87 #[.pointer (some ⟨w.heap.size, 0, none⟩)] (fun v => !voteOk m v) A vs.length c vs _ h (by omega) (enters Tryz.func87 (by kernel_rfl) rfl)
    fun A' c' v W hv hin hcc hb => profileOk1 m v A' c' w.heap.size W (cell_carry hb x0) hin (hx v hv) hcc)
  have HN := Lib.hid (not_any_ok m vs)
  unfold profOk
  clear hx
  generalize vs.any (fun v => !voteOk m v) = q at *
  generalize vs.all (voteOk m) = q' at *
  generalize hw0 : w.alloc (.cells #[.int .i64 m, .slice A vs.length c] 24) = w0 at *
  have hB := b0
  clear b0
  cases hm : inB m 1 5
  · go_enter Tryz.func40, Tryz.ntmps40
    go_wp2_with fail
    (with_reducible refine (within_any _ _ _ _).mono ?_)
    rintro e w1 ⟨rfl, rfl⟩
    rw [hm]
    go_wp2_with fail
    go_ret
    exact ⟨by simp, hB⟩
  by_cases hl : vs.length ≤ 24
  · go_enter Tryz.func40, Tryz.ntmps40
    go_wp2_with fail
    (with_reducible refine (within_any _ _ _ _).mono ?_)
    rintro e w1 ⟨rfl, rfl⟩
    rw [hm]
    go_wp2_with fail
    (with_reducible refine (K.out).mono ?_)
    rintro e w2 ⟨rfl, b2⟩
    replace hB := hB.trans (b2.mono hB.size)
    clear b2
    go_wp2_with fail
    go_ret
    exact ⟨by rw [HN.out, decide_eq_true hl]; simp, hB⟩
  · go_enter Tryz.func40, Tryz.ntmps40
    go_wp2_with fail
    (with_reducible refine (within_any _ _ _ _).mono ?_)
    rintro e w1 ⟨rfl, rfl⟩
    rw [hm]
    go_wp2_with fail
    go_ret
    exact ⟨by rw [decide_eq_false hl]; simp, hB⟩
set_option maxHeartbeats 400000 in
theorem implVoters (g : Nat) (lb : Array Value) (f : List Int → Bool) (m : Int) (A : Option Addr) (n c : Nat) (vs : List Vt) (w : World) (h : VotesAt w A n vs) (hn : n ≤ 24) (hc : ∀ v ∈ vs, 0 ≤ v.c ∧ v.c ≤ 1000)
    (hen : ∀ (args : Array Value) (w : World), (callFunc g args).run Tryz.prog w = .ok (.enter g args) w)
    (hg : ∀ A' c' v W, v ∈ vs → IntsAt W A' v.r.length v.r → v.r.length ≤ c' → Below w.heap.size w W → Calls Tryz.prog g (#[.slice A' v.r.length c'] ++ lb) W fun e W' => e = .returned (.bool (f v.r)) ∧ Below W.heap.size W W') :
    Calls Tryz.prog 145 #[.agg #[.int .i64 m, .slice A n c], .func (.func g) #[] lb] w fun e w' => e = .returned (.int .i64 (vts f vs)) ∧ Below w.heap.size w w' := by
  obtain rfl := h.len
  have b0 := alloc_below w (.cells #[.int .i64 m, .slice A vs.length c] 24)
  obtain ⟨x0, x1⟩ := PBox.new w m A vs.length c 24 rfl
  have HC := Lib.hid hc
  have HG := Lib.hid hg
  clear hc hg
  generalize hw0 : w.alloc (.cells #[.int .i64 m, .slice A vs.length c] 24) = w0 at *
  go_enter Tryz.func145, Tryz.ntmps145
  go_wp2
  clear x0 x1
  go_loopw [5, 7, 11] (fun s _ i wr => ∃ k : Nat, k ≤ vs.length ∧ i = .int .i64 k ∧ s = .int .i64 (vtsTo f vs k) ∧ Below w.heap.size w wr) (fun _ _ i _ => vs.length - (intOf i).toNat)
  case atStart => exact ⟨0, Nat.zero_le _, rfl, rfl, b0⟩
  case round =>
    obtain ⟨k, hk, rfl, rfl, hb⟩ := hrel
    clear b0 hw0
    by_cases hlt : k < vs.length
    · obtain ⟨b, o, A', c', rfl, hbl, hc1, hc2, hcc, hin⟩ := (h.below hb).at_ hlt
      have bd := vtsTo_bd (f := f) HC.out k (by omega)
      have vb := HC.out _ (vx_mem hlt)
      have HS : Hid (vtsTo f vs (k + 1) = vtsTo f vs k + (if f (vx vs k).r then (vx vs k).c else 0)) := rfl
      have KV := Lib.hid (vx_mem hlt)
      generalize vx vs k = v at *
      generalize vtsTo f vs k = s at *
      have b1 := alloc_below wr (.cells #[.slice A' v.r.length c', .int .i64 v.c] 44)
      obtain ⟨y0, y1⟩ := new_pair wr (.slice A' v.r.length c') (.int .i64 v.c) 44 rfl
      have hB := hb.trans (b1.mono hb.size)
      have K := Lib.hid (HG.out A' c' v _ KV.out (hin.below b1) hcc hB)
      clear hb hin b1
      generalize hw1 : wr.alloc (.cells #[.slice A' v.r.length c', .int .i64 v.c] 44) = w1 at *
      go_wp2_with fail
      (with_reducible refine (K.out).mono ?_)
      rintro e w2 ⟨rfl, b2⟩
      replace y0 := cell_carry b2 y0
      replace y1 := cell_carry b2 y1
      replace hB := hB.trans (b2.mono hB.size)
      clear b2
      clear hw1
      cases hf : f v.r
      · rw [hf, if_neg (by simp), Int.add_zero] at HS
        go_wp2
        go_roundw
        case rel => exact ⟨k + 1, by omega, by go_num, by rw [HS.out], hB⟩
        case measure => simp [intOf]; omega
      · rw [hf, if_pos rfl] at HS
        go_wp2
        go_roundw
        case rel => exact ⟨k + 1, by omega, by go_num, by rw [HS.out], hB⟩
        case measure => simp [intOf]; omega
    · obtain rfl : k = vs.length := by omega
      go_wp2
      go_ret
      exact ⟨rfl, hb⟩
set_option maxHeartbeats 400000 in
theorem implCountVoters (m : Int) (A : Option Addr) (n c : Nat) (vs : List Vt) (w : World) (h : VotesAt w A n vs) (hn : n ≤ 1048576) (hx : ∀ v ∈ vs, v.r.length ≤ 1048576) :
    Calls Tryz.prog 78 #[.agg #[.int .i64 m, .slice A n c]] w fun e w' => e = .returned (.int .i64 (if profOk m vs then votersP vs else -1)) ∧ Below w.heap.size w w' := by
  obtain rfl := h.len
  have hB := alloc_below w (.cells #[.int .i64 m, .slice A vs.length c] 24)
  obtain ⟨x0, x1⟩ := PBox.new w m A vs.length c 24 rfl
  replace h := h.below hB
  generalize hw0 : w.alloc (.cells #[.int .i64 m, .slice A vs.length c] 24) = w0 at *
  have K := Lib.hid (implProfileOk m A vs.length c vs _ h hn hx)
  cases hp : profOk m vs
  · rw [hp] at K
    go_enter Tryz.func78, Tryz.ntmps78
    go_wp2_with fail
    (with_reducible refine (K.out).mono ?_)
    rintro e w1 ⟨rfl, b1⟩
    replace hB := hB.trans (b1.mono hB.size)
    clear b1
    go_wp2
    go_ret
    exact ⟨rfl, hB⟩
  · rw [hp] at K
    have F := Lib.hid (pf_of hp)
    go_enter Tryz.func78, Tryz.ntmps78
    go_wp2_with fail
    (with_reducible refine (K.out).mono ?_)
    rintro e w1 ⟨rfl, b1⟩
    replace x0 := cell_carry b1 x0
    replace x1 := cell_carry b1 x1
    replace h := h.below b1
    replace hB := hB.trans (b1.mono hB.size)
    clear b1
    clear K
    have K := Lib.hid (implVoters 146 #[] (fun _ => true) m A vs.length c vs _ h F.out.n F.out.c (enters Tryz.func146 (by kernel_rfl) rfl) (fun A' c' v W _ _ _ _ => by
      go_enter Tryz.func146, Tryz.ntmps146
      go_wp2
      go_ret
      exact ⟨rfl, Below.refl _ _⟩))
    go_wp2_with fail
    (with_reducible refine (K.out).mono ?_)
    rintro e w2 ⟨rfl, b2⟩
    replace hB := hB.trans (b2.mono hB.size)
    clear b2
    go_wp2
    go_ret
    exact ⟨rfl, hB⟩
set_option maxHeartbeats 400000 in
theorem implPair (m : Int) (A : Option Addr) (n c : Nat) (vs : List Vt) (a b : Int) (w : World) (h : VotesAt w A n vs) (F : PF m vs) :
    Calls Tryz.prog 105 #[.agg #[.int .i64 m, .slice A n c], .int .i64 a, .int .i64 b] w fun e w' => e = .returned (.int .i64 (pairP vs a b)) ∧ Below w.heap.size w w' := by
  obtain rfl := h.len
  have hB := alloc_below w (.cells #[.int .i64 m, .slice A vs.length c] 24)
  obtain ⟨x0, x1⟩ := PBox.new w m A vs.length c 24 rfl
  have b1 := alloc_below (w.alloc (.cells #[.int .i64 m, .slice A vs.length c] 24)) (.cells #[.int .i64 a] 3)
  replace x0 := cell_carry b1 x0
  replace x1 := cell_carry b1 x1
  replace hB := hB.trans (b1.mono hB.size)
  have y0 := new_cell (w.alloc (.cells #[.int .i64 m, .slice A vs.length c] 24)) (.int .i64 a) 3 (g := w.heap.size + 1) (by simp)
  have b2 := alloc_below ((w.alloc (.cells #[.int .i64 m, .slice A vs.length c] 24)).alloc (.cells #[.int .i64 a] 3)) (.cells #[.int .i64 b] 3)
  replace x0 := cell_carry b2 x0
  replace x1 := cell_carry b2 x1
  replace y0 := cell_carry b2 y0
  replace hB := hB.trans (b2.mono hB.size)
  have z0 := new_cell ((w.alloc (.cells #[.int .i64 m, .slice A vs.length c] 24)).alloc (.cells #[.int .i64 a] 3)) (.int .i64 b) 3 (g := w.heap.size + 2) (by simp)
  clear b1 b2
  replace h := h.below hB
  generalize hw0 : ((w.alloc (.cells #[.int .i64 m, .slice A vs.length c] 24)).alloc (.cells #[.int .i64 a] 3)).alloc (.cells #[.int .i64 b] 3) = w0 at *
  have K := Lib.hid (implVoters 164 #[.pointer (some ⟨w.heap.size + 1, 0, none⟩), .pointer (some ⟨w.heap.size + 2, 0, none⟩)] (fun r => pref r a b) m A vs.length c vs _ h F.n F.c (enters Tryz.func164 (by kernel_rfl) rfl) (fun A' c' v W hv hin hcc hb => by
    have hl := F.l v hv
    have m5 := F.m5
    replace y0 := cell_carry hb y0
    replace z0 := cell_carry hb z0
    clear hv F
    go_enter Tryz.func164, Tryz.ntmps164
    go_wp2_with fail
    (with_reducible refine (implPrefers A' _ c' v.r a b _ hin (by omega)).mono ?_)
    rintro e w1 ⟨rfl, rfl⟩
    go_wp2
    go_ret
    exact ⟨rfl, Below.refl _ _⟩))
  unfold pairP
  go_enter Tryz.func105, Tryz.ntmps105
  go_wp2_with fail
  (with_reducible refine (K.out).mono ?_)
  rintro e w1 ⟨rfl, b1⟩
  replace hB := hB.trans (b1.mono hB.size)
  clear b1
  go_wp2
  go_ret
  exact ⟨rfl, hB⟩
theorem pair_bd {m : Int} {vs : List Vt} (F : PF m vs) (a b : Int) : 0 ≤ pairP vs a b ∧ pairP vs a b ≤ 24000 := vts_bd F.c F.n
set_option maxHeartbeats 400000 in
theorem implMargin (m : Int) (A : Option Addr) (n c : Nat) (vs : List Vt) (a b : Int) (w : World) (h : VotesAt w A n vs) (F : PF m vs) :
    Calls Tryz.prog 96 #[.agg #[.int .i64 m, .slice A n c], .int .i64 a, .int .i64 b] w fun e w' => e = .returned (.int .i64 (marginP vs a b)) ∧ Below w.heap.size w w' := by
  obtain rfl := h.len
  have hB := alloc_below w (.cells #[.int .i64 m, .slice A vs.length c] 24)
  obtain ⟨x0, x1⟩ := PBox.new w m A vs.length c 24 rfl
  replace h := h.below hB
  generalize hw0 : w.alloc (.cells #[.int .i64 m, .slice A vs.length c] 24) = w0 at *
  have p1 := pair_bd F a b
  have p2 := pair_bd F b a
  have K1 : Hid (∀ L : Later w0, Calls Tryz.prog 105 #[.agg #[.int .i64 m, .slice A vs.length c], .int .i64 a, .int .i64 b] L.W fun e W' => e = .returned (.int .i64 (pairP vs a b)) ∧ ∃ L' : Later w0, W' = L'.W) := fun L => L.call (implPair m A _ c vs a b L.W (h.below L.h) F)
  have K2 : Hid (∀ L : Later w0, Calls Tryz.prog 105 #[.agg #[.int .i64 m, .slice A vs.length c], .int .i64 b, .int .i64 a] L.W fun e W' => e = .returned (.int .i64 (pairP vs b a)) ∧ ∃ L' : Later w0, W' = L'.W) := fun L => L.call (implPair m A _ c vs b a L.W (h.below L.h) F)
  have q0 : ∀ L : Later w0, L.W.cell? ⟨w.heap.size, 0, none⟩ = some (.int .i64 m) := fun L => L.cell x0
  have q1 : ∀ L : Later w0, L.W.cell? ⟨w.heap.size, 1, none⟩ = some (.slice A vs.length c) := fun L => L.cell x1
  unfold marginP
  generalize pairP vs a b = pa at *
  generalize pairP vs b a = pb at *
  go_enter Tryz.func96, Tryz.ntmps96
  go_wp2
  clear hw0
  refine wp_region_later (by kernel_rfl) (by kernel_rfl) ?_
  repeat (go_big_quiet_step (first | (with_reducible exact K1.out _) | (with_reducible exact K2.out _)))
  trace_state
  (refine wpQuiet_nil ?_; rintro _ ⟨⟨wl, hbl⟩, rfl⟩)
  go_wp2
  go_ret
  exact ⟨rfl, hB.trans (hbl.mono hB.size)⟩
end Go.Proofs.YtaanppihgldeaaaGreatDoor
