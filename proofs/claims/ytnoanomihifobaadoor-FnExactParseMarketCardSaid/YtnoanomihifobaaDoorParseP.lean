/- The text of a market, cut at its blanks and read: plain lists. No program is walked here. -/
import Derived.Test.YtnoanomihifobaaDoorFmtM0
import Derived.Lib.Split
namespace Go.Proofs.YtnoanomihifobaaDoor
set_option linter.unusedVariables false
open Go.RowKit

def spA (cur : List UInt8) : List UInt8 → List (List UInt8)
  | [] => [cur]
  | x :: xs => if x = 32 then cur :: spA [] xs else spA (cur ++ [x]) xs
theorem spA_none : ∀ {s cur : List UInt8}, (∀ x ∈ s, x ≠ 32) → spA cur s = [cur ++ s]
  | [], cur, _ => by simp [spA]
  | x :: s, cur, h => by
    unfold spA
    rw [if_neg (h x (by simp)), spA_none fun y hy => h y (by simp [hy])]
    simp
theorem spA_hit : ∀ {a cur : List UInt8} (b : List UInt8), (∀ x ∈ a, x ≠ 32) → spA cur (a ++ 32 :: b) = (cur ++ a) :: spA [] b
  | [], cur, b, _ => by show spA cur (32 :: b) = _; rw [spA, if_pos rfl, List.append_nil]
  | x :: a, cur, b, h => by
    show spA cur (x :: (a ++ 32 :: b)) = _
    rw [spA, if_neg (h x (by simp)), spA_hit b fun y hy => h y (by simp [hy])]
    simp
theorem spA_ne : ∀ (s cur : List UInt8), spA cur s ≠ []
  | [], cur => by simp [spA]
  | x :: s, cur => by
    unfold spA
    split
    · simp
    · exact spA_ne s _
theorem spA_sum : ∀ (s cur : List UInt8), ((spA cur s).map fun w => w.length + 1).sum = cur.length + s.length + 1
  | [], cur => by simp [spA]
  | x :: s, cur => by
    unfold spA
    split
    · rw [List.map_cons, List.sum_cons, spA_sum s []]; simp; omega
    · rw [spA_sum s]; simp; omega
theorem occ32 (s : List UInt8) (i : Nat) : Lib.occAt s [32] i = decide (s[i]? = some 32) := by
  unfold Lib.occAt
  cases h : s.drop i with
  | nil =>
    have : s[i]? = none := by rw [List.getElem?_eq_none_iff]; simpa using h
    simp [this]
  | cons x t =>
    have : s[i]? = some x := by
      have h2 : (s.drop i)[0]? = some x := by rw [h]; rfl
      simpa using h2
    rw [this]
    simp only [List.isPrefixOf, Bool.and_true, Option.some.injEq]
    rw [Bool.eq_iff_iff, beq_iff_eq, decide_eq_true_eq]
    exact ⟨fun e => e.symm, fun e => e.symm⟩
theorem split_sp : ∀ (n : Nat) (s : List UInt8), s.length ≤ n → Lib.split s [32] = spA [] s := by
  intro n
  induction n with
  | zero =>
    intro s h
    have : s = [] := List.eq_nil_of_length_eq_zero (by omega)
    subst this
    rfl
  | succ n ih =>
    intro s h
    unfold Lib.split
    rcases Lib.index_spec s [32] with ⟨h1, h2⟩ | ⟨i, h1, h2, h3, h4⟩
    · rw [Lib.count_miss h1]
      show [s] = _
      rw [spA_none fun x hx => ?_]
      · rfl
      · rintro rfl
        obtain ⟨j, hj, e⟩ := List.getElem_of_mem hx
        have := h2 j (by omega)
        rw [occ32, List.getElem?_eq_getElem hj, e] at this
        simp at this
    · rw [occ32, decide_eq_true_eq] at h3
      obtain ⟨hi, e⟩ := List.getElem?_eq_some_iff.1 h3
      have hs : s = s.take i ++ 32 :: s.drop (i + 1) := by
        have := (List.take_append_drop i s).symm
        rw [List.drop_eq_getElem_cons hi, e] at this
        exact this
      have hc := Lib.count_hit (s := s) (sub := [32]) (by simp) h1
      rw [show i + [(32 : UInt8)].length = i + 1 from rfl] at hc
      have ih2 := ih (s.drop (i + 1)) (by rw [List.length_drop]; omega)
      unfold Lib.split at ih2
      have hx : spA [] s = s.take i :: spA [] (s.drop (i + 1)) := by
        conv => lhs; rw [hs]
        rw [spA_hit _ fun x hx => ?_]
        · rfl
        · rintro rfl
          obtain ⟨j, hj, e2⟩ := List.getElem_of_mem hx
          rw [List.length_take] at hj
          rw [List.getElem_take] at e2
          have := h4 j (by omega)
          rw [occ32, List.getElem?_eq_getElem (by omega), e2] at this
          simp at this
      rw [hx, ← ih2, hc, Nat.add_comm 1]
      have hne : (Lib.index s [32] == -1) = false := by rw [beq_eq_false_iff_ne, h1]; omega
      rw [Lib.splitK, hne, h1]
      simp

/-- the words of a text -/
def wds (a : ByteArray) : List (List UInt8) := spA [] a.data.toList
def bytesW (w : List UInt8) : ByteArray := ⟨w.toArray⟩
def lsR (w : List UInt8) : List Int := w.map fun x => (x.toNat : Int) - 97
def okR (w : List UInt8) : Bool := rankOk (w.length : Int) (lsR w)
def parR (w : List UInt8) : List Int := if okR w then lsR w else []
theorem parR_yes {w : List UInt8} (h : okR w = true) : parR w = lsR w := by unfold parR; rw [if_pos h]
theorem parR_no {w : List UInt8} (h : okR w = false) : parR w = [] := by unfold parR; rw [h]; rfl
theorem lsR_len (w : List UInt8) : (lsR w).length = w.length := by simp [lsR]
/-- the reference's reading -/
def rdS : List (List UInt8) → Bool → List (List Int) → List (List Int) → Option (List (List Int) × List (List Int))
  | [], _, M, W => some (M, W)
  | w :: ws, b, M, W => if w = [124] then rdS ws true M W else if okR w then (if b then rdS ws b M (W ++ [lsR w]) else rdS ws b (M ++ [lsR w]) W) else none
/-- the program's: a word that is no ranking gives an empty list -/
def rdF : List (List UInt8) → Bool → List (List Int) → List (List Int) → List (List Int) × List (List Int)
  | [], _, M, W => (M, W)
  | w :: ws, b, M, W => if w = [124] then rdF ws true M W else if b then rdF ws b M (W ++ [parR w]) else rdF ws b (M ++ [parR w]) W
theorem rdS_some : ∀ {ws : List (List UInt8)} {b : Bool} {M W : List (List Int)} {r : List (List Int) × List (List Int)}, rdS ws b M W = some r → rdF ws b M W = r
  | [], _, M, W, r, h => by simpa [rdS, rdF] using h
  | w :: ws, b, M, W, r, h => by
    unfold rdS at h
    unfold rdF
    by_cases hw : w = [124]
    · rw [if_pos hw] at h ⊢
      exact rdS_some h
    · rw [if_neg hw] at h ⊢
      cases hk : okR w
      · rw [hk] at h; cases h
      · rw [hk, if_pos rfl] at h
        rw [parR_yes hk]
        cases b <;> (simp only [Bool.false_eq_true, if_false, if_true] at h ⊢; exact rdS_some h)
theorem rdF_mono : ∀ (ws : List (List UInt8)) (b : Bool) (M W : List (List Int)), (∀ x ∈ M, x ∈ (rdF ws b M W).1) ∧ ∀ x ∈ W, x ∈ (rdF ws b M W).2
  | [], _, M, W => ⟨fun x h => h, fun x h => h⟩
  | w :: ws, b, M, W => by
    unfold rdF
    split
    · exact rdF_mono ws true M W
    · split
      · have := rdF_mono ws b M (W ++ [parR w])
        exact ⟨this.1, fun x hx => this.2 x (by simp [hx])⟩
      · have := rdF_mono ws b (M ++ [parR w]) W
        exact ⟨fun x hx => this.1 x (by simp [hx]), this.2⟩
theorem rdS_none : ∀ {ws : List (List UInt8)} {b : Bool} {M W : List (List Int)}, rdS ws b M W = none → [] ∈ (rdF ws b M W).1 ∨ [] ∈ (rdF ws b M W).2
  | [], _, M, W, h => by simp [rdS] at h
  | w :: ws, b, M, W, h => by
    unfold rdS at h
    unfold rdF
    by_cases hw : w = [124]
    · rw [if_pos hw] at h ⊢
      exact rdS_none h
    · rw [if_neg hw] at h ⊢
      cases hk : okR w
      · rw [parR_no hk]
        cases b
        · exact .inl ((rdF_mono ws false (M ++ [[]]) W).1 [] (by simp))
        · exact .inr ((rdF_mono ws true M (W ++ [[]])).2 [] (by simp))
      · rw [hk, if_pos rfl] at h
        rw [parR_yes hk]
        cases b <;> (simp only [Bool.false_eq_true, if_false, if_true] at h ⊢; exact rdS_none h)
theorem rdF_len : ∀ (ws : List (List UInt8)) (b : Bool) (M W : List (List Int)), (rdF ws b M W).1.length + (rdF ws b M W).2.length ≤ M.length + W.length + ws.length
  | [], _, M, W => by simp [rdF]
  | w :: ws, b, M, W => by
    unfold rdF
    split
    · have := rdF_len ws true M W; simp; omega
    · split
      · have := rdF_len ws b M (W ++ [parR w]); simp at this ⊢; omega
      · have := rdF_len ws b (M ++ [parR w]) W; simp at this ⊢; omega
def parF (a : ByteArray) : List (List Int) × List (List Int) := rdF (wds a) false [] []
def parOk (a : ByteArray) : Bool := (rdS (wds a) false [] []).isSome && marketOk (parF a).1 (parF a).2 && decide (fmtMarket (parF a).1 (parF a).2 = a)
def parMen (a : ByteArray) : List (List Int) := if parOk a then (parF a).1 else []
def parWom (a : ByteArray) : List (List Int) := if parOk a then (parF a).2 else []
theorem par_yes {a : ByteArray} (h : parOk a = true) : parMen a = (parF a).1 ∧ parWom a = (parF a).2 := by unfold parMen parWom; rw [h]; exact ⟨rfl, rfl⟩
theorem par_no {a : ByteArray} (h : parOk a = false) : parMen a = [] ∧ parWom a = [] := by unfold parMen parWom; rw [h]; exact ⟨rfl, rfl⟩
theorem spA_join : ∀ (r : List (List UInt8)) (x : List UInt8), (∀ y ∈ x, y ≠ 32) → (∀ w ∈ r, ∀ y ∈ w, y ≠ 32) → spA [] (x ++ (r.map ([32] ++ ·)).flatten) = x :: r
  | [], x, hx, _ => by simp only [List.map_nil, List.flatten_nil, List.append_nil]; rw [spA_none hx]; rfl
  | w :: r, x, hx, hr => by
    have e : x ++ ((w :: r).map ([32] ++ ·)).flatten = x ++ 32 :: (w ++ (r.map ([32] ++ ·)).flatten) := by simp
    rw [e, spA_hit _ hx, spA_join r w (hr w (by simp)) fun v hv => hr v (by simp [hv])]
    rfl
theorem wds_fmt {xss yss : List (List Int)} (h : marketOk xss yss = true) : (wds (fmtMarket xss yss)).length = xss.length + 1 + yss.length := by
  have F := market_facts h
  have hb : ∀ w ∈ (wordsM xss yss).map (fun (w : List Int) => w.map fun n => UInt8.ofNat n.toNat), ∀ y ∈ w, y ≠ 32 := by
    intro w hw y hy
    obtain ⟨v, hv, rfl⟩ := List.mem_map.1 hw
    obtain ⟨n, hn, rfl⟩ := List.mem_map.1 hy
    have hr : ∀ (zss : List (List Int)), (∀ i, i < zss.length → rankOk xss.length (rx zss i) = true) → xss.length ≤ 5 → v ∈ zss.map rankNums → 97 ≤ n ∧ n ≤ 102 := by
      intro zss hz h5 hv
      obtain ⟨l, hl, rfl⟩ := List.mem_map.1 hv
      obtain ⟨i, hi, rfl⟩ := List.getElem_of_mem hl
      have h1 := hz i hi
      rw [rx_lt hi] at h1
      obtain ⟨m, hm, rfl⟩ := List.mem_map.1 hn
      obtain ⟨j, hj, rfl⟩ := List.getElem_of_mem hm
      have h2 := (rankOk_facts h1).2.2.2 j hj
      rw [ix_lt hj] at h2
      omega
    have h3 : (97 ≤ n ∧ n ≤ 102) ∨ n = 124 := by
      unfold wordsM at hv
      rcases List.mem_append.1 hv with hv | hv
      · rcases List.mem_append.1 hv with hv | hv
        · exact .inl (hr xss F.mr F.hi hv)
        · rw [List.mem_singleton] at hv
          subst hv
          exact .inr (by simpa using hn)
      · exact .inl (hr yss (fun i hi => F.wr i (by have := F.wl; omega)) F.hi hv)
    intro e
    have := congrArg UInt8.toNat e
    rw [UInt8.toNat_ofNat'] at this
    have e32 : (32 : UInt8).toNat = 32 := rfl
    rw [e32] at this
    omega
  rw [fmtMarket_yes h]
  unfold wds
  rw [strOfNums_data]
  have hne : xss.map rankNums ≠ [] := by
    intro e
    have h1 := congrArg List.length e
    rw [List.length_map, List.length_nil] at h1
    have := F.lo
    omega
  obtain ⟨x, r, hxr⟩ : ∃ x r, wordsM xss yss = x :: r := by
    unfold wordsM
    cases h4 : xss.map rankNums with
    | nil => exact absurd h4 hne
    | cons x r => exact ⟨x, r ++ [[124]] ++ yss.map rankNums, by simp⟩
  rw [hxr] at hb
  have e1 : (joinN (wordsM xss yss)).map (fun n => UInt8.ofNat n.toNat) = (x.map fun n => UInt8.ofNat n.toNat) ++ ((r.map fun (w : List Int) => w.map fun n => UInt8.ofNat n.toNat).map ([32] ++ ·)).flatten := by
    rw [hxr]
    simp only [joinN, List.map_append, List.map_flatten, List.map_map]
    congr 1
  rw [e1, spA_join _ _ (fun y hy => hb _ (by simp) y hy) (fun w hw y hy => hb w (by rw [List.map_cons]; exact List.mem_cons_of_mem _ hw) y hy)]
  have h5 := congrArg List.length hxr
  unfold wordsM at h5
  simp at h5 ⊢
  omega
/-- as the program asks -/
theorem parOk_impl (a : ByteArray) : parOk a = (decide ((wds a).length ≤ 11) && (marketOk (parF a).1 (parF a).2 && decide (fmtMarket (parF a).1 (parF a).2 = a))) := by
  unfold parOk
  cases hm : marketOk (parF a).1 (parF a).2
  · simp
  · have F := market_facts hm
    by_cases hf : fmtMarket (parF a).1 (parF a).2 = a
    · have hl := wds_fmt hm
      rw [hf] at hl
      have h5 := F.hi
      have h6 := F.wl
      rw [decide_eq_true (show (wds a).length ≤ 11 by omega), decide_eq_true hf]
      cases hp : rdS (wds a) false [] [] with
      | some r => rfl
      | none =>
        exfalso
        have hno : ∀ (n : Nat), 1 ≤ n → rankOk n [] = false := fun n hn => by
          cases e : rankOk n [] with
          | false => rfl
          | true => have := (rankOk_facts e).2.2.1; simp at this; omega
        have hlo := F.lo
        rcases rdS_none hp with h7 | h7
        · obtain ⟨i, hi, e⟩ := List.getElem_of_mem h7
          have h8 := F.mr i hi
          unfold parF at h8 hlo
          rw [rx_lt hi, e, hno _ (by omega)] at h8
          cases h8
        · obtain ⟨i, hi, e⟩ := List.getElem_of_mem h7
          have h8 := F.wr i (by rw [← F.wl]; exact hi)
          unfold parF at h8 hlo
          rw [rx_lt hi, e, hno _ (by omega)] at h8
          cases h8
    · rw [decide_eq_false hf]
      simp
end Go.Proofs.YtnoanomihifobaaDoor
