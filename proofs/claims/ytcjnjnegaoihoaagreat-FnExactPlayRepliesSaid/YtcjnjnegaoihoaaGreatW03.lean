/- Profiles, the program's side: ProfileOk, voters, pair, margin, beats. Profiles, the program's side: beats, those, only. Weights of places, the program's side. Markets: the check of a market, matchings, a matching turned round. Sums. Counts of votes: the check, and quotas. -/
import Derived.Test.YtcjnjnegaoihoaaGreatW02
import Derived.Deep.DrawnRows
import Derived.Test.YtcjnjnegaoihoaaGreatW01
namespace Go.Proofs.YtcjnjnegaoihoaaGreat
set_option linter.unusedSimpArgs false
set_option linter.unusedVariables false
set_option linter.unusedVariables false
open Go.RowKit

def voteOk (m : Int) (v : Vt) : Bool := rankOk m v.r && inB v.c 1 1000
def profOk (m : Int) (vs : List Vt) : Bool := inB m 1 5 && decide (vs.length ≤ 24) && vs.all (voteOk m)
/-- the voters of the first k votes whose ranking is wanted -/
def vtsTo (f : List Int → Bool) (vs : List Vt) : Nat → Int
  | 0 => 0
  | k + 1 => vtsTo f vs k + (if f (vx vs k).r then (vx vs k).c else 0)
def vts (f : List Int → Bool) (vs : List Vt) : Int := vtsTo f vs vs.length
theorem vtsTo_bd {f : List Int → Bool} {vs : List Vt} (hc : ∀ v ∈ vs, 0 ≤ v.c ∧ v.c ≤ 1000) : ∀ k, k ≤ vs.length → 0 ≤ vtsTo f vs k ∧ vtsTo f vs k ≤ 1000 * k
  | 0, _ => by simp [vtsTo]
  | k + 1, h => by
    have ih := vtsTo_bd (f := f) hc k (by omega)
    have := hc _ (vx_mem (vs := vs) (j := k) (by omega))
    rw [vtsTo]; split <;> omega
def pairP (vs : List Vt) (a b : Int) : Int := vts (fun r => pref r a b) vs
def marginP (vs : List Vt) (a b : Int) : Int := pairP vs a b - pairP vs b a
def beatsP (vs : List Vt) (a b : Int) : Bool := decide (0 < marginP vs a b)
def votersP (vs : List Vt) : Int := vts (fun _ => true) vs
theorem vts_bd {f : List Int → Bool} {vs : List Vt} (hc : ∀ v ∈ vs, 0 ≤ v.c ∧ v.c ≤ 1000) (hn : vs.length ≤ 24) : 0 ≤ vts f vs ∧ vts f vs ≤ 24000 := by
  have := vtsTo_bd (f := f) hc vs.length (Nat.le_refl _)
  unfold vts; omega
/-- what every valid profile has -/
structure PF (m : Int) (vs : List Vt) : Prop where
  m1 : 1 ≤ m
  m5 : m ≤ 5
  n : vs.length ≤ 24
  r : ∀ v ∈ vs, rankOk m v.r = true
  c : ∀ v ∈ vs, 0 ≤ v.c ∧ v.c ≤ 1000
  c1 : ∀ v ∈ vs, 1 ≤ v.c
  l : ∀ v ∈ vs, (v.r.length : Int) = m
theorem pf_of {m : Int} {vs : List Vt} (h : profOk m vs = true) : PF m vs := by
  unfold profOk at h
  rw [Bool.and_eq_true, Bool.and_eq_true, inB_iff, decide_eq_true_eq, List.all_eq_true] at h
  have hv : ∀ v ∈ vs, rankOk m v.r = true ∧ (1 ≤ v.c ∧ v.c ≤ 1000) := fun v hv => by
    have := h.2 v hv
    unfold voteOk at this
    rw [Bool.and_eq_true, inB_iff] at this
    exact this
  refine ⟨h.1.1.1, h.1.1.2, h.1.2, fun v m => (hv v m).1, fun v m => by have := (hv v m).2; omega, fun v m => (hv v m).2.1, fun v m => ?_⟩
  have := (hv v m).1
  unfold rankOk at this
  rw [Bool.and_eq_true, Bool.and_eq_true, decide_eq_true_eq] at this
  exact this.1.2
theorem not_any_ok (m : Int) (vs : List Vt) : (!(vs.any fun v => !voteOk m v)) = vs.all (voteOk m) := by
  rw [List.not_any_eq_all_not]
  congr 1
  funext x
  simp
/-- the struct of a profile lies in block g -/
structure PBox (w : World) (g : Nat) (m : Int) (A : Option Addr) (n c : Nat) : Prop where
  c0 : w.cell? ⟨g, 0, none⟩ = some (.int .i64 m)
  c1 : w.cell? ⟨g, 1, none⟩ = some (.slice A n c)
theorem PBox.lt {w : World} {g : Nat} {m : Int} {A : Option Addr} {n c : Nat} (h : PBox w g m A n c) : g < w.heap.size := cell_lt h.c0
theorem PBox.below {w w' : World} {g : Nat} {m : Int} {A : Option Addr} {n c : Nat} (h : PBox w g m A n c) (hb : Below w.heap.size w w') : PBox w' g m A n c := ⟨cell_carry hb h.c0, cell_carry hb h.c1⟩
theorem PBox.new (w : World) (m : Int) (A : Option Addr) (n c : Nat) (t : TypeId) {g : Nat} (hg : g = w.heap.size) : PBox (w.alloc (.cells #[.int .i64 m, .slice A n c] t)) g m A n c :=
  ⟨(new_pair w _ _ t hg).1, (new_pair w _ _ t hg).2⟩
theorem alloc_below (w : World) (o : Obj) : Below w.heap.size w (w.alloc o) := (Below.refl _ _).alloc (Nat.le_refl _) o

theorem containsFuncV_any (g : Nat) (lb : Array Value) (p : Vt → Bool) (A : Option Addr) (n c : Nat) (vs : List Vt) (w : World) (h : VotesAt w A n vs) (hn : n ≤ 1099511627776)
    (hen : ∀ (args : Array Value) (w : World), (callFunc g args).run Tryz.prog w = .ok (.enter g args) w)
    (hg : ∀ A' c' v W, v ∈ vs → IntsAt W A' v.r.length v.r → v.r.length ≤ c' → Below w.heap.size w W → Calls Tryz.prog g (#[.agg #[.slice A' v.r.length c', .int .i64 v.c]] ++ lb) W fun e W' => e = .returned (.bool (p v)) ∧ Below W.heap.size W W') :
    Calls Tryz.prog 57 #[.slice A n c, .func (.func g) #[] lb] w fun e w' => e = .returned (.bool (vs.any p)) ∧ Below w.heap.size w w' := by
  have hH := indexFuncV_any g lb p A n c vs w h hn hen hg
  have HG := Lib.hid hH
  clear hH hg
  have he := idxV_ge p vs 0
  rw [List.drop_zero] at he
  have HE := Lib.hid he
  clear he
  go_enter Tryz.func57, Tryz.ntmps57
  go_wp2_with fail
  refine HG.out.mono ?_
  rintro e w' ⟨rfl, hb'⟩
  go_wp2
  go_ret
  exact ⟨ret_b HE.out.symm, hb'⟩
theorem profileOk1 (m : Int) (v : Vt) (A' : Option Addr) (c' g : Nat) (W : World) (x0 : W.cell? ⟨g, 0, none⟩ = some (.int .i64 m)) (hin : IntsAt W A' v.r.length v.r) (hl : v.r.length ≤ 1048576) (hcc : v.r.length ≤ c') :
    Calls Tryz.prog 58 #[.agg #[.slice A' v.r.length c', .int .i64 v.c], .pointer (some ⟨g, 0, none⟩)] W fun e W' => e = .returned (.bool (!voteOk m v)) ∧ Below W.heap.size W W' := by
  have b0 := alloc_below W (.cells #[.slice A' v.r.length c', .int .i64 v.c] 46)
  obtain ⟨v0, v1⟩ := new_pair W (.slice A' v.r.length c') (.int .i64 v.c) 46 rfl
  replace x0 := cell_carry b0 x0
  replace hin := hin.below b0
  have K := Lib.hid (implRankingOk m A' v.r.length c' v.r _ hin hl hcc)
  unfold voteOk
  generalize rankOk m v.r = q at *
  cases q
  · go_enter Tryz.func58, Tryz.ntmps58
    go_wp2_with fail
    (with_reducible refine K.out.mono ?_)
    rintro e w1 ⟨rfl, rfl⟩
    go_wp2_with fail
    go_ret
    exact ⟨rfl, b0⟩
  · go_enter Tryz.func58, Tryz.ntmps58
    go_wp2_with fail
    (with_reducible refine K.out.mono ?_)
    rintro e w1 ⟨rfl, rfl⟩
    go_wp2_with fail
    (with_reducible refine (within_any _ _ _ _).mono ?_)
    rintro e w1 ⟨rfl, rfl⟩
    go_wp2_with fail
    go_ret
    exact ⟨by simp, b0⟩
set_option maxHeartbeats 400000 in
theorem implProfileOk (m : Int) (A : Option Addr) (n c : Nat) (vs : List Vt) (w : World) (h : VotesAt w A n vs) (hn : n ≤ 1048576) (hx : ∀ v ∈ vs, v.r.length ≤ 1048576) :
    Calls Tryz.prog 45 #[.agg #[.int .i64 m, .slice A n c]] w fun e w' => e = .returned (.bool (profOk m vs)) ∧ Below w.heap.size w w' := by
  obtain rfl := h.len
  have b0 := alloc_below w (.cells #[.int .i64 m, .slice A vs.length c] 31)
  obtain ⟨x0, x1⟩ := PBox.new w m A vs.length c 31 rfl
  replace h := h.below b0
  have K := Lib.hid (containsFuncV_any 58 #[.pointer (some ⟨w.heap.size, 0, none⟩)] (fun v => !voteOk m v) A vs.length c vs _ h (by omega) (enters Tryz.func58 (by kernel_rfl) rfl)
    fun A' c' v W hv hin hcc hb => profileOk1 m v A' c' w.heap.size W (cell_carry hb x0) hin (hx v hv) hcc)
  have HN := Lib.hid (not_any_ok m vs)
  unfold profOk
  clear hx
  generalize vs.any (fun v => !voteOk m v) = q at *
  generalize vs.all (voteOk m) = q' at *
  generalize hw0 : w.alloc (.cells #[.int .i64 m, .slice A vs.length c] 31) = w0 at *
  have hB := b0
  clear b0
  cases hm : inB m 1 5
  · go_enter Tryz.func45, Tryz.ntmps45
    go_wp2_with fail
    (with_reducible refine (within_any _ _ _ _).mono ?_)
    rintro e w1 ⟨rfl, rfl⟩
    rw [hm]
    go_wp2_with fail
    go_ret
    exact ⟨by simp, hB⟩
  by_cases hl : vs.length ≤ 24
  · go_enter Tryz.func45, Tryz.ntmps45
    go_wp2_with fail
    (with_reducible refine (within_any _ _ _ _).mono ?_)
    rintro e w1 ⟨rfl, rfl⟩
    rw [hm]
    go_wp2_with fail
    (with_reducible refine (K.out).mono ?_)
    rintro e w2 ⟨rfl, b2⟩
    replace hB := hB.trans (b2.mono hB.size)
    clear b2
    go_wp2_with fail
    go_ret
    exact ⟨by rw [HN.out, decide_eq_true hl]; simp, hB⟩
  · go_enter Tryz.func45, Tryz.ntmps45
    go_wp2_with fail
    (with_reducible refine (within_any _ _ _ _).mono ?_)
    rintro e w1 ⟨rfl, rfl⟩
    rw [hm]
    go_wp2_with fail
    go_ret
    exact ⟨by rw [decide_eq_false hl]; simp, hB⟩
set_option maxHeartbeats 400000 in
theorem implVoters (g : Nat) (lb : Array Value) (f : List Int → Bool) (m : Int) (A : Option Addr) (n c : Nat) (vs : List Vt) (w : World) (h : VotesAt w A n vs) (hn : n ≤ 24) (hc : ∀ v ∈ vs, 0 ≤ v.c ∧ v.c ≤ 1000)
    (hen : ∀ (args : Array Value) (w : World), (callFunc g args).run Tryz.prog w = .ok (.enter g args) w)
    (hg : ∀ A' c' v W, v ∈ vs → IntsAt W A' v.r.length v.r → v.r.length ≤ c' → Below w.heap.size w W → Calls Tryz.prog g (#[.slice A' v.r.length c'] ++ lb) W fun e W' => e = .returned (.bool (f v.r)) ∧ Below W.heap.size W W') :
    Calls Tryz.prog 147 #[.agg #[.int .i64 m, .slice A n c], .func (.func g) #[] lb] w fun e w' => e = .returned (.int .i64 (vts f vs)) ∧ Below w.heap.size w w' := by
  obtain rfl := h.len
  have b0 := alloc_below w (.cells #[.int .i64 m, .slice A vs.length c] 31)
  obtain ⟨x0, x1⟩ := PBox.new w m A vs.length c 31 rfl
  have HC := Lib.hid hc
  have HG := Lib.hid hg
  clear hc hg
  generalize hw0 : w.alloc (.cells #[.int .i64 m, .slice A vs.length c] 31) = w0 at *
  go_enter Tryz.func147, Tryz.ntmps147
  go_wp2
  clear x0 x1
  go_loopw [5, 7, 11] (fun s _ i wr => ∃ k : Nat, k ≤ vs.length ∧ i = .int .i64 k ∧ s = .int .i64 (vtsTo f vs k) ∧ Below w.heap.size w wr) (fun _ _ i _ => vs.length - (intOf i).toNat)
  case atStart => exact ⟨0, Nat.zero_le _, rfl, rfl, b0⟩
  case round =>
    obtain ⟨k, hk, rfl, rfl, hb⟩ := hrel
    clear b0 hw0
    by_cases hlt : k < vs.length
    · obtain ⟨b, o, A', c', rfl, hbl, hc1, hc2, hcc, hin⟩ := (h.below hb).at_ hlt
      have bd := vtsTo_bd (f := f) HC.out k (by omega)
      have vb := HC.out _ (vx_mem hlt)
      have HS : Hid (vtsTo f vs (k + 1) = vtsTo f vs k + (if f (vx vs k).r then (vx vs k).c else 0)) := rfl
      have KV := Lib.hid (vx_mem hlt)
      generalize vx vs k = v at *
      generalize vtsTo f vs k = s at *
      have b1 := alloc_below wr (.cells #[.slice A' v.r.length c', .int .i64 v.c] 46)
      obtain ⟨y0, y1⟩ := new_pair wr (.slice A' v.r.length c') (.int .i64 v.c) 46 rfl
      have hB := hb.trans (b1.mono hb.size)
      have K := Lib.hid (HG.out A' c' v _ KV.out (hin.below b1) hcc hB)
      clear hb hin b1
      generalize hw1 : wr.alloc (.cells #[.slice A' v.r.length c', .int .i64 v.c] 46) = w1 at *
      go_wp2_with fail
      (with_reducible refine (K.out).mono ?_)
      rintro e w2 ⟨rfl, b2⟩
      replace y0 := cell_carry b2 y0
      replace y1 := cell_carry b2 y1
      replace hB := hB.trans (b2.mono hB.size)
      clear b2
      clear hw1
      cases hf : f v.r
      · rw [hf, if_neg (by simp), Int.add_zero] at HS
        go_wp2
        go_roundw
        case rel => exact ⟨k + 1, by omega, by go_num, by rw [HS.out], hB⟩
        case measure => simp [intOf]; omega
      · rw [hf, if_pos rfl] at HS
        go_wp2
        go_roundw
        case rel => exact ⟨k + 1, by omega, by go_num, by rw [HS.out], hB⟩
        case measure => simp [intOf]; omega
    · obtain rfl : k = vs.length := by omega
      go_wp2
      go_ret
      exact ⟨rfl, hb⟩
set_option maxHeartbeats 400000 in
theorem implCountVoters (m : Int) (A : Option Addr) (n c : Nat) (vs : List Vt) (w : World) (h : VotesAt w A n vs) (hn : n ≤ 1048576) (hx : ∀ v ∈ vs, v.r.length ≤ 1048576) :
    Calls Tryz.prog 105 #[.agg #[.int .i64 m, .slice A n c]] w fun e w' => e = .returned (.int .i64 (if profOk m vs then votersP vs else -1)) ∧ Below w.heap.size w w' := by
  obtain rfl := h.len
  have hB := alloc_below w (.cells #[.int .i64 m, .slice A vs.length c] 31)
  obtain ⟨x0, x1⟩ := PBox.new w m A vs.length c 31 rfl
  replace h := h.below hB
  generalize hw0 : w.alloc (.cells #[.int .i64 m, .slice A vs.length c] 31) = w0 at *
  have K := Lib.hid (implProfileOk m A vs.length c vs _ h hn hx)
  cases hp : profOk m vs
  · rw [hp] at K
    go_enter Tryz.func105, Tryz.ntmps105
    go_wp2_with fail
    (with_reducible refine (K.out).mono ?_)
    rintro e w1 ⟨rfl, b1⟩
    replace hB := hB.trans (b1.mono hB.size)
    clear b1
    go_wp2
    go_ret
    exact ⟨rfl, hB⟩
  · rw [hp] at K
    have F := Lib.hid (pf_of hp)
    go_enter Tryz.func105, Tryz.ntmps105
    go_wp2_with fail
    (with_reducible refine (K.out).mono ?_)
    rintro e w1 ⟨rfl, b1⟩
    replace x0 := cell_carry b1 x0
    replace x1 := cell_carry b1 x1
    replace h := h.below b1
    replace hB := hB.trans (b1.mono hB.size)
    clear b1
    clear K
    have K := Lib.hid (implVoters 148 #[] (fun _ => true) m A vs.length c vs _ h F.out.n F.out.c (enters Tryz.func148 (by kernel_rfl) rfl) (fun A' c' v W _ _ _ _ => by
      go_enter Tryz.func148, Tryz.ntmps148
      go_wp2
      go_ret
      exact ⟨rfl, Below.refl _ _⟩))
    go_wp2_with fail
    (with_reducible refine (K.out).mono ?_)
    rintro e w2 ⟨rfl, b2⟩
    replace hB := hB.trans (b2.mono hB.size)
    clear b2
    go_wp2
    go_ret
    exact ⟨rfl, hB⟩
set_option maxHeartbeats 400000 in
theorem implPair (m : Int) (A : Option Addr) (n c : Nat) (vs : List Vt) (a b : Int) (w : World) (h : VotesAt w A n vs) (F : PF m vs) :
    Calls Tryz.prog 106 #[.agg #[.int .i64 m, .slice A n c], .int .i64 a, .int .i64 b] w fun e w' => e = .returned (.int .i64 (pairP vs a b)) ∧ Below w.heap.size w w' := by
  obtain rfl := h.len
  have hB := alloc_below w (.cells #[.int .i64 m, .slice A vs.length c] 31)
  obtain ⟨x0, x1⟩ := PBox.new w m A vs.length c 31 rfl
  have b1 := alloc_below (w.alloc (.cells #[.int .i64 m, .slice A vs.length c] 31)) (.cells #[.int .i64 a] 3)
  replace x0 := cell_carry b1 x0
  replace x1 := cell_carry b1 x1
  replace hB := hB.trans (b1.mono hB.size)
  have y0 := new_cell (w.alloc (.cells #[.int .i64 m, .slice A vs.length c] 31)) (.int .i64 a) 3 (g := w.heap.size + 1) (by simp)
  have b2 := alloc_below ((w.alloc (.cells #[.int .i64 m, .slice A vs.length c] 31)).alloc (.cells #[.int .i64 a] 3)) (.cells #[.int .i64 b] 3)
  replace x0 := cell_carry b2 x0
  replace x1 := cell_carry b2 x1
  replace y0 := cell_carry b2 y0
  replace hB := hB.trans (b2.mono hB.size)
  have z0 := new_cell ((w.alloc (.cells #[.int .i64 m, .slice A vs.length c] 31)).alloc (.cells #[.int .i64 a] 3)) (.int .i64 b) 3 (g := w.heap.size + 2) (by simp)
  clear b1 b2
  replace h := h.below hB
  generalize hw0 : ((w.alloc (.cells #[.int .i64 m, .slice A vs.length c] 31)).alloc (.cells #[.int .i64 a] 3)).alloc (.cells #[.int .i64 b] 3) = w0 at *
  have K := Lib.hid (implVoters 149 #[.pointer (some ⟨w.heap.size + 1, 0, none⟩), .pointer (some ⟨w.heap.size + 2, 0, none⟩)] (fun r => pref r a b) m A vs.length c vs _ h F.n F.c (enters Tryz.func149 (by kernel_rfl) rfl) (fun A' c' v W hv hin hcc hb => by
    have hl := F.l v hv
    have m5 := F.m5
    replace y0 := cell_carry hb y0
    replace z0 := cell_carry hb z0
    clear hv F
    go_enter Tryz.func149, Tryz.ntmps149
    go_wp2_with fail
    (with_reducible refine (implPrefers A' _ c' v.r a b _ hin (by omega)).mono ?_)
    rintro e w1 ⟨rfl, rfl⟩
    go_wp2
    go_ret
    exact ⟨rfl, Below.refl _ _⟩))
  unfold pairP
  go_enter Tryz.func106, Tryz.ntmps106
  go_wp2_with fail
  (with_reducible refine (K.out).mono ?_)
  rintro e w1 ⟨rfl, b1⟩
  replace hB := hB.trans (b1.mono hB.size)
  clear b1
  go_wp2
  go_ret
  exact ⟨rfl, hB⟩
theorem pair_bd {m : Int} {vs : List Vt} (F : PF m vs) (a b : Int) : 0 ≤ pairP vs a b ∧ pairP vs a b ≤ 24000 := vts_bd F.c F.n
set_option maxHeartbeats 400000 in
theorem implMargin (m : Int) (A : Option Addr) (n c : Nat) (vs : List Vt) (a b : Int) (w : World) (h : VotesAt w A n vs) (F : PF m vs) :
    Calls Tryz.prog 103 #[.agg #[.int .i64 m, .slice A n c], .int .i64 a, .int .i64 b] w fun e w' => e = .returned (.int .i64 (marginP vs a b)) ∧ Below w.heap.size w w' := by
  obtain rfl := h.len
  have hB := alloc_below w (.cells #[.int .i64 m, .slice A vs.length c] 31)
  obtain ⟨x0, x1⟩ := PBox.new w m A vs.length c 31 rfl
  replace h := h.below hB
  generalize hw0 : w.alloc (.cells #[.int .i64 m, .slice A vs.length c] 31) = w0 at *
  have p1 := pair_bd F a b
  have p2 := pair_bd F b a
  have K1 : Hid (∀ L : Later w0, Calls Tryz.prog 106 #[.agg #[.int .i64 m, .slice A vs.length c], .int .i64 a, .int .i64 b] L.W fun e W' => e = .returned (.int .i64 (pairP vs a b)) ∧ ∃ L' : Later w0, W' = L'.W) := fun L => L.call (implPair m A _ c vs a b L.W (h.below L.h) F)
  have K2 : Hid (∀ L : Later w0, Calls Tryz.prog 106 #[.agg #[.int .i64 m, .slice A vs.length c], .int .i64 b, .int .i64 a] L.W fun e W' => e = .returned (.int .i64 (pairP vs b a)) ∧ ∃ L' : Later w0, W' = L'.W) := fun L => L.call (implPair m A _ c vs b a L.W (h.below L.h) F)
  have q0 : ∀ L : Later w0, L.W.cell? ⟨w.heap.size, 0, none⟩ = some (.int .i64 m) := fun L => L.cell x0
  have q1 : ∀ L : Later w0, L.W.cell? ⟨w.heap.size, 1, none⟩ = some (.slice A vs.length c) := fun L => L.cell x1
  unfold marginP
  generalize pairP vs a b = pa at *
  generalize pairP vs b a = pb at *
  go_enter Tryz.func103, Tryz.ntmps103
  go_wp2
  clear hw0
  refine wp_region_later (by kernel_rfl) (by kernel_rfl) ?_
  repeat (go_big_quiet_step (first | (with_reducible exact K1.out _) | (with_reducible exact K2.out _)))
  trace_state
  (refine wpQuiet_nil ?_; rintro _ ⟨⟨wl, hbl⟩, rfl⟩)
  go_wp2
  go_ret
  exact ⟨rfl, hB.trans (hbl.mono hB.size)⟩
end Go.Proofs.YtcjnjnegaoihoaaGreat
namespace Go.Proofs.YtcjnjnegaoihoaaGreat
set_option linter.unusedSimpArgs false
set_option linter.unusedVariables false
set_option linter.unusedVariables false
open Go.RowKit

theorem implBeats (m : Int) (A : Option Addr) (n c : Nat) (vs : List Vt) (a b : Int) (w : World) (h : VotesAt w A n vs) (F : PF m vs) :
    Calls Tryz.prog 108 #[.agg #[.int .i64 m, .slice A n c], .int .i64 a, .int .i64 b] w fun e w' => e = .returned (.bool (beatsP vs a b)) ∧ Below w.heap.size w w' := by
  obtain rfl := h.len
  have hB := alloc_below w (.cells #[.int .i64 m, .slice A vs.length c] 31)
  obtain ⟨x0, x1⟩ := PBox.new w m A vs.length c 31 rfl
  replace h := h.below hB
  generalize hw0 : w.alloc (.cells #[.int .i64 m, .slice A vs.length c] 31) = w0 at *
  have K := Lib.hid (implMargin m A vs.length c vs a b _ h F)
  unfold beatsP
  go_enter Tryz.func108, Tryz.ntmps108
  go_wp2_with fail
  (with_reducible refine (K.out).mono ?_)
  rintro e w1 ⟨rfl, b1⟩
  replace hB := hB.trans (b1.mono hB.size)
  clear b1
  go_wp2
  go_ret
  exact ⟨rfl, hB⟩
/-- the numbers below k for which p holds with each other one below m -/
def thoseTo (m : Nat) (p : Int → Int → Bool) : Nat → List Int
  | 0 => []
  | k + 1 => thoseTo m p k ++ (if allN (fun b => (k == b) || p (k : Int) (b : Int)) m then [(k : Int)] else [])
theorem thoseTo_len (m : Nat) (p : Int → Int → Bool) : ∀ k, (thoseTo m p k).length ≤ k
  | 0 => by simp [thoseTo]
  | k + 1 => by have := thoseTo_len m p k; rw [thoseTo]; split <;> simp <;> omega
def thoseP (m : Int) (p : Int → Int → Bool) : List Int := thoseTo m.toNat p m.toNat
def thoseR (m : Int) (vs : List Vt) (p : Int → Int → Bool) : List Int := if profOk m vs then thoseP m p else []
set_option maxHeartbeats 1000000 in
theorem implThose (g : Nat) (lb : Array Value) (p : Int → Int → Bool) (m : Int) (A : Option Addr) (n c : Nat) (vs : List Vt) (w : World) (h : VotesAt w A n vs) (hn : n ≤ 1048576) (hx : ∀ v ∈ vs, v.r.length ≤ 1048576)
    (hen : ∀ (args : Array Value) (w : World), (callFunc g args).run Tryz.prog w = .ok (.enter g args) w)
    (hg : profOk m vs = true → ∀ (a b : Nat) W, (a : Int) < m → (b : Int) < m → a ≠ b → Below w.heap.size w W → Calls Tryz.prog g (#[.int .i64 (a : Int), .int .i64 (b : Int)] ++ lb) W fun e W' => e = .returned (.bool (p (a : Int) (b : Int))) ∧ Below W.heap.size W W') :
    Calls Tryz.prog 118 #[.agg #[.int .i64 m, .slice A n c], .func (.func g) #[] lb] w fun e w' => ∃ A' c', e = .returned (.slice A' (thoseR m vs p).length c') ∧ OwnI w' w.heap.size w'.heap.size (.slice A' (thoseR m vs p).length c') (thoseR m vs p) ∧ Below w.heap.size w w' := by
  obtain rfl := h.len
  have hB := alloc_below w (.cells #[.int .i64 m, .slice A vs.length c] 31)
  obtain ⟨x0, x1⟩ := PBox.new w m A vs.length c 31 rfl
  replace h := h.below hB
  generalize hw0 : w.alloc (.cells #[.int .i64 m, .slice A vs.length c] 31) = w0 at *
  have K := Lib.hid (implProfileOk m A vs.length c vs _ h hn hx)
  clear hx
  unfold thoseR
  cases hp : profOk m vs
  · rw [hp] at K
    simp only [Bool.false_eq_true, if_false, List.length_nil]
    clear hg
    go_enter Tryz.func118, Tryz.ntmps118
    go_wp2_with fail
    (with_reducible refine (K.out).mono ?_)
    rintro e w1 ⟨rfl, b1⟩
    replace hB := hB.trans (b1.mono hB.size)
    clear b1
    go_wp2
    go_ret
    exact ⟨_, _, rfl, OwnI.nil _ _ _, hB⟩
  rw [hp] at K
  simp only [if_true]
  have HG := Lib.hid (hg hp)
  clear hg
  have F := pf_of hp
  obtain ⟨M, hM⟩ : ∃ M : Nat, m = (M : Int) := ⟨m.toNat, by have := F.m1; omega⟩
  have M5 : M ≤ 5 := by have := F.m5; omega
  clear F
  subst hM
  unfold thoseP
  rw [Int.toNat_natCast]
  obtain ⟨T, hT⟩ : ∃ T, thoseTo M p M = T := ⟨_, rfl⟩
  rw [hT]
  go_enter Tryz.func118, Tryz.ntmps118
  go_wp2_with fail
  (with_reducible refine (K.out).mono ?_)
  rintro e w1 ⟨rfl, b1⟩
  replace x0 := cell_carry b1 x0
  replace x1 := cell_carry b1 x1
  replace hB := hB.trans (b1.mono hB.size)
  clear b1
  clear K
  go_wp2

  go_loopw [5, 6, 7, 8, 14] (fun v _ _ _ i wr => ∃ (k : Nat) (A' : Option Addr) (c' : Nat), k ≤ M ∧ i = .int .i64 k ∧ v = .slice A' (thoseTo M p k).length c' ∧ OwnI wr w1.heap.size wr.heap.size (.slice A' (thoseTo M p k).length c') (thoseTo M p k) ∧ Below w1.heap.size w1 wr) (fun _ _ _ _ i _ => M - (intOf i).toNat)
  case atStart => exact ⟨0, none, 0, Nat.zero_le _, rfl, rfl, OwnI.nil _ _ _, Below.refl _ _⟩
  case round =>
    obtain ⟨k, A1, c1, hk, rfl, rfl, ho, hb⟩ := hrel
    have hl := thoseTo_len M p k
    by_cases hlt : k < M
    · have x0' := cell_carry hb x0
      have HS : Hid (thoseTo M p (k + 1) = thoseTo M p k ++ (if allN (fun b => (k == b) || p (k : Int) (b : Int)) M then [(k : Int)] else [])) := rfl
      generalize thoseTo M p k = xs at *
      obtain ⟨wo, rfl⟩ : ∃ wo, wo = wr := ⟨_, rfl⟩
      go_wp2
      clear x0'
      go_loopw [7, 8, 19] (fun v _ i wr => ∃ (j : Nat), j ≤ M ∧ i = .int .i64 j ∧ v = .bool (allN (fun b => (k == b) || p (k : Int) (b : Int)) j) ∧ Below wo.heap.size wo wr) (fun _ _ i _ => M - (intOf i).toNat)
      case atStart => exact ⟨0, Nat.zero_le _, rfl, rfl, Below.refl _ _⟩
      case round =>
        obtain ⟨j, hj, rfl, rfl, hb2⟩ := hrel
        by_cases hlj : j < M
        · have HT : Hid (allN (fun b => (k == b) || p (k : Int) (b : Int)) (j + 1) = (allN (fun b => (k == b) || p (k : Int) (b : Int)) j && ((k == j) || p (k : Int) (j : Int)))) := rfl
          generalize allN (fun b => (k == b) || p (k : Int) (b : Int)) j = q at *
          cases q
          · go_wp2
            go_roundw
            case rel => exact ⟨j + 1, by omega, by go_num, by rw [HT.out]; rfl, hb2⟩
            case measure => simp [intOf]; omega
          by_cases hkj : k = j
          · subst hkj
            go_wp2
            go_roundw
            case rel => exact ⟨k + 1, by omega, by go_num, by rw [HT.out]; simp, hb2⟩
            case measure => simp [intOf]; omega
          · have e1 : ((k : Int) == (j : Int)) = false := by rw [beq_eq_false_iff_ne]; omega
            have e2 : (k == j) = false := by rw [beq_eq_false_iff_ne]; exact hkj
            have KK := Lib.hid (HG.out k j wr (by omega) (by omega) hkj (hB.trans ((hb.trans (hb2.mono hb.size)).mono hB.size)))
            have E2 := Lib.hid e2
            clear e2
            go_wp2_with fail
            (with_reducible refine KK.out.mono ?_)
            rintro e w3 ⟨rfl, b3⟩
            replace hb2 := hb2.trans (b3.mono hb2.size)
            clear b3 KK
            go_wp2
            go_roundw
            case rel => exact ⟨j + 1, by omega, by go_num, by rw [HT.out, E2.out]; simp, hb2⟩
            case measure => simp [intOf]; omega
        · obtain rfl : j = M := by omega
          replace ho := (ho.belowW hb2).mono (Nat.le_refl _) hb2.size
          replace hb := hb.trans (hb2.mono hb.size)
          have z1 := hB.size
          have z2 := hb.size
          clear hb2
          generalize allN (fun b => (k == b) || p (k : Int) (b : Int)) j = q at *
          cases q
          · go_wp2
            go_roundw
            case rel => exact ⟨k + 1, A1, c1, by omega, by go_num, by rw [HS.out]; simp, by rw [HS.out]; simpa using ho, hb⟩
            case measure => simp [intOf]; omega
          · go_wp2_with (at_builtin; refine wpList_append_int _ rfl _ _ rfl (w1.heap.size) _ (xs.length) _ _ _ rfl (ho.alloc _) ((k : Int)) _ 1 rfl (new_cell _ _ _ rfl) (by omega) (by simp; omega) (by simp; omega) ?_)
            intro A4 c4 w4 o4 on4
            replace hb := (hb.alloc (Nat.le_trans hb.size (by simp)) _).trans (on4.toBelow (by omega) (by simp; omega))
            go_wp2
            go_roundw
            case rel => exact ⟨k + 1, A4, c4, by omega, by go_num, by rw [HS.out]; simp, by rw [HS.out]; simpa using o4, hb⟩
            case measure => simp [intOf]; omega
    · obtain rfl : k = M := by omega
      rw [hT] at ho ⊢
      have hB2 := hB.trans (hb.mono hB.size)
      go_wp2
      go_ret
      exact ⟨_, _, rfl, ho.mono hB.size (Nat.le_refl _), hB2⟩
end Go.Proofs.YtcjnjnegaoihoaaGreat
namespace Go.Proofs.YtcjnjnegaoihoaaGreat
set_option linter.unusedSimpArgs false
set_option linter.unusedVariables false
set_option linter.unusedVariables false
open Go.RowKit

/-- f at the first k numbers -/
def mapTo (f : Int → Int) : Nat → List Int
  | 0 => []
  | k + 1 => mapTo f k ++ [f (k : Int)]
theorem mapTo_len (f : Int → Int) : ∀ k, (mapTo f k).length = k
  | 0 => rfl
  | k + 1 => by rw [mapTo, List.length_append, mapTo_len f k]; rfl
theorem mapTo_ix {f : Int → Int} : ∀ {k i : Nat}, i < k → ix (mapTo f k) i = f (i : Int)
  | 0, _, h => absurd h (by omega)
  | k + 1, i, h => by
    rw [mapTo]
    by_cases e : i < k
    · rw [ix_lt (by rw [List.length_append, mapTo_len]; omega), List.getElem_append_left (by rw [mapTo_len]; exact e), ← ix_lt, mapTo_ix e]
    · obtain rfl : i = k := by omega
      rw [ix_lt (by rw [List.length_append, mapTo_len]; simp), List.getElem_append_right (by rw [mapTo_len]; omega)]
      simp [mapTo_len]
def wtsOf (m : Int) (f : Int → Int) : List Int := if inB m 1 5 then mapTo f m.toNat else []
set_option maxHeartbeats 400000 in
theorem implWeightsOf (g : Nat) (lb : Array Value) (f : Int → Int) (m : Int) (w : World)
    (hen : ∀ (args : Array Value) (w : World), (callFunc g args).run Tryz.prog w = .ok (.enter g args) w)
    (hg : inB m 1 5 = true → ∀ (a : Nat) W, (a : Int) < m → Below w.heap.size w W → Calls Tryz.prog g (#[.int .i64 (a : Int)] ++ lb) W fun e W' => e = .returned (.int .i64 (f (a : Int))) ∧ Below W.heap.size W W') :
    Calls Tryz.prog 97 #[.int .i64 m, .func (.func g) #[] lb] w fun e w' => ∃ A' c', e = .returned (.slice A' (wtsOf m f).length c') ∧ OwnI w' w.heap.size w'.heap.size (.slice A' (wtsOf m f).length c') (wtsOf m f) ∧ Below w.heap.size w w' := by
  unfold wtsOf
  cases hm : inB m 1 5
  · simp only [Bool.false_eq_true, if_false, List.length_nil]
    clear hg
    go_enter Tryz.func97, Tryz.ntmps97
    go_wp2_with fail
    (with_reducible refine (within_any _ _ _ _).mono ?_)
    rintro e w1 ⟨rfl, rfl⟩
    rw [hm]
    go_wp2
    go_ret
    exact ⟨_, _, rfl, OwnI.nil _ _ _, Below.refl _ _⟩
  have HG := Lib.hid (hg hm)
  clear hg
  have hm' := inB_iff.1 hm
  obtain ⟨M, rfl⟩ : ∃ M : Nat, m = (M : Int) := ⟨m.toNat, by omega⟩
  simp only [if_true, Int.toNat_natCast]
  obtain ⟨T, hT⟩ : ∃ T, mapTo f M = T := ⟨_, rfl⟩
  rw [hT]
  go_enter Tryz.func97, Tryz.ntmps97
  go_wp2_with fail
  (with_reducible refine (within_any _ _ _ _).mono ?_)
  rintro e w1 ⟨rfl, rfl⟩
  rw [hm]
  go_wp2
  clear hm
  go_loopw [5, 6, 11] (fun v _ i wr => ∃ (k : Nat) (A' : Option Addr) (c' : Nat), k ≤ M ∧ i = .int .i64 k ∧ v = .slice A' (mapTo f k).length c' ∧ OwnI wr w.heap.size wr.heap.size (.slice A' (mapTo f k).length c') (mapTo f k) ∧ Below w.heap.size w wr) (fun _ _ i _ => M - (intOf i).toNat)
  case atStart => exact ⟨0, none, 0, Nat.zero_le _, rfl, rfl, OwnI.nil _ _ _, Below.refl _ _⟩
  case round =>
    obtain ⟨k, A1, c1, hk, rfl, rfl, ho, hb⟩ := hrel
    have hl := Nat.le_of_eq (mapTo_len f k)
    by_cases hlt : k < M
    · have HS : Hid (mapTo f (k + 1) = mapTo f k ++ [f (k : Int)]) := rfl
      generalize mapTo f k = xs at *
      have KK := Lib.hid (HG.out k wr (by omega) hb)
      generalize f (k : Int) = y at *
      go_wp2_with fail
      (with_reducible refine KK.out.mono ?_)
      rintro e w3 ⟨rfl, b3⟩
      replace ho := (ho.belowW b3).mono (Nat.le_refl _) b3.size
      replace hb := hb.trans (b3.mono hb.size)
      have z2 := hb.size
      clear b3 KK
      go_wp2_with (at_builtin; refine wpList_append_int _ rfl _ _ rfl (w.heap.size) _ (xs.length) _ _ _ rfl (ho.alloc _) (y) _ 1 rfl (new_cell _ _ _ rfl) (by omega) (by simp; omega) (by simp; omega) ?_)
      intro A4 c4 w4 o4 on4
      replace hb := (hb.alloc z2 _).trans (on4.toBelow (by omega) (by simp; omega))
      go_wp2
      go_roundw
      case rel => exact ⟨k + 1, A4, c4, by omega, by go_num, by rw [HS.out]; simp, by rw [HS.out]; simpa using o4, hb⟩
      case measure => simp [intOf]; omega
    · obtain rfl : k = M := by omega
      rw [hT] at ho ⊢
      go_wp2
      go_ret
      exact ⟨_, _, rfl, ho, hb⟩
def plurW (m : Int) : List Int := wtsOf m fun a => max 0 (1 - a)
def bordW (m : Int) : List Int := wtsOf m fun a => m - 1 - a
def vetoW (m : Int) : List Int := wtsOf m fun a => min 1 (m - 1 - a)
theorem implPlurality (m : Int) (w : World) :
    Calls Tryz.prog 62 #[.int .i64 m] w fun e w' => ∃ A' c', e = .returned (.slice A' (plurW m).length c') ∧ OwnI w' w.heap.size w'.heap.size (.slice A' (plurW m).length c') (plurW m) ∧ Below w.heap.size w w' := by
  have K := Lib.hid (implWeightsOf 98 #[] (fun a => max 0 (1 - a)) m w (enters Tryz.func98 (by kernel_rfl) rfl) (fun hm a W ha _ => by
    have := inB_iff.1 hm
    go_enter Tryz.func98, Tryz.ntmps98
    go_wp2
    all_goals
      go_ret
      exact ⟨ret_i (by omega), Below.refl _ _⟩))
  unfold plurW
  generalize wtsOf m (fun a => max 0 (1 - a)) = T at *
  go_enter Tryz.func62, Tryz.ntmps62
  go_wp2_with fail
  (with_reducible refine K.out.mono ?_)
  rintro e w1 ⟨A1, c1, rfl, o1, hB⟩
  go_wp2
  go_ret
  exact ⟨_, _, rfl, o1, hB⟩
theorem implBorda (m : Int) (w : World) :
    Calls Tryz.prog 63 #[.int .i64 m] w fun e w' => ∃ A' c', e = .returned (.slice A' (bordW m).length c') ∧ OwnI w' w.heap.size w'.heap.size (.slice A' (bordW m).length c') (bordW m) ∧ Below w.heap.size w w' := by
  have hB := alloc_below w (.cells #[.int .i64 m] 3)
  have x0 := new_cell w (.int .i64 m) 3 rfl
  generalize hw0 : w.alloc (.cells #[.int .i64 m] 3) = w0 at *
  have K := Lib.hid (implWeightsOf 99 #[.pointer (some ⟨w.heap.size, 0, none⟩)] (fun a => m - 1 - a) m w0 (enters Tryz.func99 (by kernel_rfl) rfl) (fun hm a W ha hb => by
    have := inB_iff.1 hm
    replace x0 := cell_carry hb x0
    go_enter Tryz.func99, Tryz.ntmps99
    go_wp2
    go_ret
    exact ⟨rfl, Below.refl _ _⟩))
  unfold bordW
  generalize wtsOf m (fun a => m - 1 - a) = T at *
  go_enter Tryz.func63, Tryz.ntmps63
  go_wp2_with fail
  (with_reducible refine K.out.mono ?_)
  rintro e w1 ⟨A1, c1, rfl, o1, b1⟩
  go_wp2
  go_ret
  exact ⟨_, _, rfl, o1.mono hB.size (Nat.le_refl _), hB.trans (b1.mono hB.size)⟩
theorem implVeto (m : Int) (w : World) :
    Calls Tryz.prog 64 #[.int .i64 m] w fun e w' => ∃ A' c', e = .returned (.slice A' (vetoW m).length c') ∧ OwnI w' w.heap.size w'.heap.size (.slice A' (vetoW m).length c') (vetoW m) ∧ Below w.heap.size w w' := by
  have hB := alloc_below w (.cells #[.int .i64 m] 3)
  have x0 := new_cell w (.int .i64 m) 3 rfl
  generalize hw0 : w.alloc (.cells #[.int .i64 m] 3) = w0 at *
  have K := Lib.hid (implWeightsOf 100 #[.pointer (some ⟨w.heap.size, 0, none⟩)] (fun a => min 1 (m - 1 - a)) m w0 (enters Tryz.func100 (by kernel_rfl) rfl) (fun hm a W ha hb => by
    have := inB_iff.1 hm
    replace x0 := cell_carry hb x0
    go_enter Tryz.func100, Tryz.ntmps100
    go_wp2
    all_goals
      go_ret
      exact ⟨ret_i (by omega), Below.refl _ _⟩))
  unfold vetoW
  generalize wtsOf m (fun a => min 1 (m - 1 - a)) = T at *
  go_enter Tryz.func64, Tryz.ntmps64
  go_wp2_with fail
  (with_reducible refine K.out.mono ?_)
  rintro e w1 ⟨A1, c1, rfl, o1, b1⟩
  go_wp2
  go_ret
  exact ⟨_, _, rfl, o1.mono hB.size (Nat.le_refl _), hB.trans (b1.mono hB.size)⟩
end Go.Proofs.YtcjnjnegaoihoaaGreat
namespace Go.Proofs.YtcjnjnegaoihoaaGreat
set_option linter.unusedSimpArgs false
set_option linter.unusedVariables false
set_option linter.unusedVariables false
open Go.RowKit

theorem rankTo_iff {m : Int} {xs : List Int} {k : Nat} : rankTo m xs k = true ↔ ∀ i, i < k → (0 ≤ ix xs i ∧ ix xs i < m) ∧ ix xs i ∉ xs.take i := by
  unfold rankTo
  rw [allN_iff]
  constructor
  · intro h i hi
    have := h i hi
    rw [Bool.and_eq_true, inB_iff, Bool.not_eq_true', has_not] at this
    exact ⟨by omega, this.2⟩
  · intro h i hi
    rw [Bool.and_eq_true, inB_iff, Bool.not_eq_true', has_not]
    exact ⟨by have := h i hi; omega, (h i hi).2⟩
theorem rankOk_facts {m : Int} {xs : List Int} (h : rankOk m xs = true) : 1 ≤ m ∧ m ≤ 5 ∧ (xs.length : Int) = m ∧ ∀ i, i < xs.length → 0 ≤ ix xs i ∧ ix xs i < m := by
  unfold rankOk at h
  rw [Bool.and_eq_true, Bool.and_eq_true, inB_iff, decide_eq_true_eq, rankTo_iff] at h
  exact ⟨h.1.1.1, h.1.1.2, h.1.2, fun i hi => (h.2 i hi).1⟩

theorem isRanking_any (A : Option Addr) (n c : Nat) (xs : List Int) (w : World) (h : IntsAt w A n xs) (hn : n ≤ 1048576) (hc : n ≤ c) :
    Calls Tryz.prog 178 #[.slice A n c] w fun e w' => e = .returned (.bool (rankOk n xs)) ∧ w = w' := by
  go_enter Tryz.func178, Tryz.ntmps178
  go_wp2_with (go_at_call 46; (with_reducible refine (implRankingOk _ _ _ _ _ _ h hn hc).mono ?_); rintro e w' ⟨rfl, rfl⟩)
  go_ret
  exact ⟨rfl, rfl⟩
/-- all lists are rankings of m -/
def listsOk (m : Int) (xss : List (List Int)) : Bool := xss.all (rankOk m)
theorem any_not_lists (m : Int) (l : List (List Int)) : (!(l.any fun x => !rankOk m x)) = listsOk m l := by
  unfold listsOk
  rw [List.not_any_eq_all_not]
  congr 1
  funext x
  simp
/-- as many men as women, from 1 to 5, and each list a ranking -/
def marketOk (xss yss : List (List Int)) : Bool := inB xss.length 1 5 && decide ((yss.length : Int) = xss.length) && listsOk xss.length xss && listsOk xss.length yss
def matchOk (xss yss : List (List Int)) (zs : List Int) : Bool := marketOk xss yss && rankOk xss.length zs
end Go.Proofs.YtcjnjnegaoihoaaGreat
namespace Go.Proofs.YtcjnjnegaoihoaaGreat
set_option linter.unusedSimpArgs false
set_option linter.unusedVariables false
set_option linter.unusedVariables false
open Go.RowKit

def lsum : List Int → Int
  | [] => 0
  | x :: r => x + lsum r
theorem lsum_append (a b : List Int) : lsum (a ++ b) = lsum a + lsum b := by
  induction a with
  | nil => simp [lsum]
  | cons x a ih => simp only [List.cons_append, lsum, ih]; omega
theorem lsum_take {xs : List Int} {k : Nat} (h : k < xs.length) : lsum (xs.take (k + 1)) = lsum (xs.take k) + ix xs k := by
  rw [take_ix h, lsum_append]; simp [lsum]
theorem lsum_bd (xs : List Int) (m : Nat) (h : ∀ x ∈ xs, 0 ≤ x ∧ x ≤ m) : 0 ≤ lsum xs ∧ lsum xs ≤ xs.length * m := by
  induction xs with
  | nil => simp [lsum]
  | cons x r ih =>
    have h1 := ih fun y hy => h y (by simp [hy])
    have h2 := h x (by simp)
    simp only [lsum, List.length_cons, Int.natCast_add, Int.add_mul]
    omega
end Go.Proofs.YtcjnjnegaoihoaaGreat
namespace Go.Proofs.YtcjnjnegaoihoaaGreat
set_option linter.unusedSimpArgs false
set_option linter.unusedVariables false
set_option linter.unusedVariables false
open Go.RowKit

theorem max_if (a b : Int) : (if a < b then b else a) = max a b := by split <;> omega
def lmaxTo (xs : List Int) : Nat → Int
  | 0 => ix xs 0
  | k + 1 => max (lmaxTo xs k) (ix xs (k + 1))
def lmax (xs : List Int) : Int := lmaxTo xs (xs.length - 1)
theorem lmaxTo_ge (xs : List Int) (k : Nat) : ∀ j, j ≤ k → ix xs j ≤ lmaxTo xs k := by
  induction k with
  | zero => intro j hj; obtain rfl : j = 0 := by omega
            exact Int.le_refl _
  | succ k ih =>
    intro j hj
    simp only [lmaxTo]
    by_cases e : j = k + 1
    · subst e; omega
    · have := ih j (by omega); omega
theorem lmaxTo_mem (xs : List Int) (k : Nat) (hk : k < xs.length) : lmaxTo xs k ∈ xs := by
  induction k with
  | zero => exact ix_mem hk
  | succ k ih =>
    simp only [lmaxTo]
    rcases Int.le_total (lmaxTo xs k) (ix xs (k + 1)) with h | h
    · rw [Int.max_eq_right h]; exact ix_mem hk
    · rw [Int.max_eq_left h]; exact ih (by omega)

theorem max_any (A : Option Addr) (n c : Nat) (xs : List Int) (w : World) (h : IntsAt w A n xs) (hn : n ≤ 1048576) (h0 : 0 < n) :
    Calls Tryz.prog 101 #[.slice A n c] w fun e w' => e = .returned (.int .i64 (lmax xs)) ∧ w = w' := by
  obtain rfl := h.len
  obtain ⟨b, o, rfl, _, hc⟩ := h.at_ h0
  have hc0 := hc 0 h0
  rw [Nat.add_zero] at hc0
  have HC := Lib.hid hc
  clear hc
  unfold lmax
  go_enter Tryz.func101, Tryz.ntmps101
  go_wp2
  go_loop [3, 4] (fun m i => ∃ k : Nat, k < xs.length ∧ i = .int .i64 (k + 1) ∧ m = .int .i64 (lmaxTo xs k)) (fun _ i => xs.length - (intOf i).toNat)
  case atStart => exact ⟨0, h0, rfl, rfl⟩
  case round =>
    obtain ⟨k, hk, rfl, rfl⟩ := hrel
    by_cases hlt : k + 1 < xs.length
    · have hck := HC.out (k + 1) hlt
      have HE : Hid (lmaxTo xs (k + 1) = max (lmaxTo xs k) (ix xs (k + 1))) := rfl
      go_wp2
      go_round
      case rel => exact ⟨k + 1, by omega, by go_num, by rw [HE.out, ← max_if]⟩
      case measure => simp [intOf]; omega
    · have e : xs.length - 1 = k := by omega
      have HE := Lib.hid e
      clear e
      go_wp2
      go_ret
      exact ⟨ret_i (by rw [HE.out]), rfl⟩

/-- from one to six counts, each up to a million, not all 0 -/
def countsOk (xs : List Int) : Bool := inB xs.length 1 6 && xs.all (inB · 0 1000000) && decide (0 < lsum xs)
theorem lsum_pos {xs : List Int} (h : ∀ x ∈ xs, 0 ≤ x) : 0 < lsum xs ↔ ∃ x ∈ xs, 0 < x := by
  induction xs with
  | nil => simp [lsum]
  | cons y r ih =>
    have h1 := h y (by simp)
    have ih' := ih fun x hx => h x (by simp [hx])
    have h2 : 0 ≤ lsum r := by
      have : ∀ l : List Int, (∀ x ∈ l, 0 ≤ x) → 0 ≤ lsum l := fun l => by
        induction l with
        | nil => simp [lsum]
        | cons z l ih => intro hl; have := ih fun x hx => hl x (by simp [hx]); have := hl z (by simp); simp only [lsum]; omega
      exact this r fun x hx => h x (by simp [hx])
    simp only [lsum, List.mem_cons]
    constructor
    · intro hs
      by_cases hy : 0 < y
      · exact ⟨y, .inl rfl, hy⟩
      · obtain ⟨x, hx, hp⟩ := ih'.1 (by omega)
        exact ⟨x, .inr hx, hp⟩
    · rintro ⟨x, rfl | hx, hp⟩
      · omega
      · have := ih'.2 ⟨x, hx, hp⟩; omega
theorem lmax_pos {xs : List Int} (h0 : 0 < xs.length) (h : ∀ x ∈ xs, 0 ≤ x) : decide (0 < lmax xs) = decide (0 < lsum xs) := by
  rw [decide_eq_decide, lsum_pos h]
  constructor
  · exact fun hp => ⟨_, lmaxTo_mem xs _ (by omega), hp⟩
  · rintro ⟨x, hx, hp⟩
    obtain ⟨j, hj, rfl⟩ := List.getElem_of_mem hx
    have := lmaxTo_ge xs (xs.length - 1) j (by omega)
    rw [ix_lt hj] at this
    unfold lmax
    omega
theorem countsOk_facts {xs : List Int} (h : countsOk xs = true) : 1 ≤ xs.length ∧ xs.length ≤ 6 ∧ (∀ x ∈ xs, 0 ≤ x ∧ x ≤ 1000000) ∧ 1 ≤ lsum xs ∧ lsum xs ≤ 6000000 := by
  unfold countsOk at h
  rw [Bool.and_eq_true, Bool.and_eq_true, inB_iff, List.all_eq_true, decide_eq_true_eq] at h
  have h1 : ∀ x ∈ xs, 0 ≤ x ∧ x ≤ 1000000 := fun x hx => inB_iff.1 (h.1.2 x hx)
  have h2 := lsum_bd xs 1000000 h1
  have h3 : (xs.length : Int) * 1000000 ≤ 6 * 1000000 := by omega
  exact ⟨by omega, by omega, h1, by omega, by omega⟩

end Go.Proofs.YtcjnjnegaoihoaaGreat
