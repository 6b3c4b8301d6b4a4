/- Kemeny: distances of rankings, the program's side. Kemeny's ranking, the program's side. The library's stable sort of few rows, greatest key first. -/
import Derived.Test.YtaanppihgldeaaaGreatDoorW05
import Derived.Test.YtaanppihgldeaaaGreatDoorW03
import Derived.Test.YtaanppihgldeaaaGreatDoorW13
import Derived.Deep.DeepCutAuto
namespace Go.Proofs.YtaanppihgldeaaaGreatDoor
set_option linter.unusedSimpArgs false
set_option linter.unusedVariables false
set_option linter.unusedVariables false
open Go.RowKit

/-- of the first j numbers behind place i of xs, those that ys has ahead of number i -/
def swIn (xs ys : List Int) (i : Nat) : Nat → Int
  | 0 => 0
  | j + 1 => swIn xs ys i j + (if pref ys (ix xs (i + 1 + j)) (ix xs i) then 1 else 0)
def swOut (xs ys : List Int) : Nat → Int
  | 0 => 0
  | i + 1 => swOut xs ys i + swIn xs ys i (xs.length - (i + 1))
def swaps (xs ys : List Int) : Int := swOut xs ys xs.length
theorem swIn_bd (xs ys : List Int) (i : Nat) : ∀ j, 0 ≤ swIn xs ys i j ∧ swIn xs ys i j ≤ j
  | 0 => by simp [swIn]
  | j + 1 => by have := swIn_bd xs ys i j; rw [swIn]; split <;> omega
theorem swOut_bd (xs ys : List Int) (h : xs.length ≤ 5) : ∀ i, 0 ≤ swOut xs ys i ∧ swOut xs ys i ≤ 5 * i
  | 0 => by simp [swOut]
  | i + 1 => by have := swOut_bd xs ys h i; have := swIn_bd xs ys i (xs.length - (i + 1)); rw [swOut]; omega
theorem drop_ints {w : World} {b o n c : Nat} {xs : List Int} (h : IntsAt w (some ⟨b, o, none⟩) n xs) (k j : Nat) (hj : k + j < n) : w.cell? ⟨b, o + k + j, none⟩ = some (.int .i64 (ix xs (k + j))) := by
  obtain ⟨b', o', e, _, hc⟩ := h.at_ (show 0 < n by omega)
  cases e
  have := hc (k + j) hj
  rwa [← Nat.add_assoc] at this
set_option maxRecDepth 100000 in
set_option maxHeartbeats 1000000 in
theorem implSwapDistance (A : Option Addr) (c : Nat) (xs : List Int) (B : Option Addr) (d_ : Nat) (ys : List Int) (m : Int) (w : World) (h : IntsAt w A xs.length xs) (hc : xs.length ≤ c) (hx : rankOk m xs = true) (g : IntsAt w B ys.length ys) (hd : ys.length ≤ d_) (hy : rankOk m ys = true) :
    Calls Tryz.prog 178 #[.slice A xs.length c, .slice B ys.length d_] w fun e w' => e = .returned (.int .i64 (swaps xs ys)) ∧ w = w' := by
  obtain ⟨m1, m5, lx, _⟩ := rankOk_facts hx
  obtain ⟨_, _, ly, _⟩ := rankOk_facts hy
  have K1 := Lib.hid (isRanking_any A xs.length c xs w h (by omega) hc)
  have K2 := Lib.hid (isRanking_any B ys.length d_ ys w g (by omega) hd)
  rw [lx, hx] at K1
  rw [ly, hy] at K2
  have x5 : xs.length ≤ 5 := by omega
  have y5 : ys.length ≤ 5 := by omega
  have e0 : ((xs.length : Int) != (ys.length : Int)) = false := by rw [bne_eq_false_iff_eq]; omega
  obtain ⟨b, o, rfl, _, hcx⟩ := h.at_ (show 0 < xs.length by omega)
  have HC := Lib.hid hcx
  have HB := Lib.hid (swOut_bd xs ys x5)
  have HI := Lib.hid (swIn_bd xs ys)
  have HD := Lib.hid (fun k j hj => drop_ints (c := c) h k j hj)
  unfold swaps
  clear hx hy lx ly hcx m1 m5
  go_enter Tryz.func178, Tryz.ntmps178
  go_wp2_with fail
  (with_reducible refine K1.out.mono ?_)
  rintro e w1 ⟨rfl, rfl⟩
  go_wp2_with fail
  (with_reducible refine K2.out.mono ?_)
  rintro e w1 ⟨rfl, rfl⟩
  clear K1 K2
  go_wp2
  go_loopw [5, 6, 7, 27] (fun v _ _ i wr => ∃ k : Nat, k ≤ xs.length ∧ i = .int .i64 k ∧ v = .int .i64 (swOut xs ys k) ∧ wr = w) (fun _ _ _ i _ => xs.length - (intOf i).toNat)
  case atStart => exact ⟨0, Nat.zero_le _, rfl, rfl, rfl⟩
  case round =>
    obtain ⟨k, hk, rfl, rfl, rfl⟩ := hrel
    by_cases hlt : k < xs.length
    · have hck := HC.out k hlt
      have bd := HB.out k
      have bi := HI.out k
      have HS : Hid (swOut xs ys (k + 1) = swOut xs ys k + swIn xs ys k (xs.length - (k + 1))) := rfl
      have HJ : Hid (∀ j, swIn xs ys k (j + 1) = swIn xs ys k j + (if pref ys (ix xs (k + 1 + j)) (ix xs k) then 1 else 0)) := fun j => rfl
      have HZ : Hid (swOut xs ys k = swOut xs ys k + swIn xs ys k 0) := (Int.add_zero _).symm
      have BI := Lib.hid bi
      clear bi
      generalize swOut xs ys k = s at *
      generalize hxk : ix xs k = x at *
      have i1 : (k : Int) < (xs.length : Int) := by omega
      have ek : IntKind.i64.wrap ((k : Int) + 1) = ((k + 1 : Nat) : Int) := by rw [IntWalk.i64_in _ (by omega)]; omega
      by_cases hcap : c = k + 1
      · have e1 : xs.length - (k + 1) = 0 := by omega
        have hln : xs.length = k + 1 := by omega
        have HE : Hid (swOut xs ys (k + 1) = s) := by have := HS.out; rw [e1] at this; rw [this]; exact HZ.out.symm
        go_wp2
        go_loopw [5, 9, 37] (fun v _ i wi => i = .int .i64 0 ∧ v = .int .i64 s ∧ wi = wr) (fun _ _ _ _ => 0)
        case atStart => exact ⟨rfl, rfl, rfl⟩
        case round =>
          obtain ⟨rfl, rfl, rfl⟩ := hrel
          go_wp2
          go_roundw
          case rel => exact ⟨k + 1, by omega, by go_num, by rw [HE.out], by trivial⟩
          case measure => simp [intOf]; omega
      · have hcap2 : ¬ (k + 1 = c) := fun e => hcap e.symm
        obtain ⟨wo, rfl⟩ : ∃ wo, wo = wr := ⟨_, rfl⟩
        have hln : ((xs.length : Int) - ((k : Int) + 1)) = ((xs.length - (k + 1) : Nat) : Int) := by omega
        go_wp2
        go_loopw [5, 9, 37] (fun v _ i wr => ∃ j : Nat, j ≤ xs.length - (k + 1) ∧ i = .int .i64 j ∧ v = .int .i64 (s + swIn xs ys k j) ∧ wr = wo) (fun _ _ i _ => xs.length - (k + 1) - (intOf i).toNat)
        case atStart => exact ⟨0, Nat.zero_le _, rfl, by rw [← HZ.out], rfl⟩
        case round =>
          obtain ⟨j, hj, rfl, rfl, rfl⟩ := hrel
          by_cases hlj : j < xs.length - (k + 1)
          · have d := HD.out (k + 1) j (by omega)
            have bi := BI.out j
            have KP := Lib.hid (implPrefers B ys.length d_ ys (ix xs (k + 1 + j)) x wr g (by omega))
            have HJ2 := Lib.hid (HJ.out j)
            generalize swIn xs ys k j = t at *
            generalize ix xs (k + 1 + j) = y at *
            generalize pref ys y x = q at *
            have i5 : (j : Int) < ((xs.length - (k + 1) : Nat) : Int) := by omega
            go_wp2_with fail
            (with_reducible refine KP.out.mono ?_)
            rintro e w1 ⟨rfl, rfl⟩
            cases q
            · rw [if_neg (by simp), Int.add_zero] at HJ2
              go_wp2
              go_roundw
              case rel => exact ⟨j + 1, by omega, by go_num, by rw [HJ2.out], by trivial⟩
              case measure => simp [intOf]; omega
            · rw [if_pos rfl] at HJ2
              go_wp2
              go_roundw
              case rel => exact ⟨j + 1, by omega, by go_num, by rw [HJ2.out, Int.add_assoc], by trivial⟩
              case measure => simp [intOf]; omega
          · obtain rfl : j = xs.length - (k + 1) := by omega
            go_wp2
            go_roundw
            case rel => exact ⟨k + 1, by omega, by go_num, by rw [HS.out], by trivial⟩
            case measure => simp [intOf]; omega
    · obtain rfl : k = xs.length := by omega
      go_wp2
      go_ret
      exact ⟨rfl, rfl⟩
end Go.Proofs.YtaanppihgldeaaaGreatDoor
namespace Go.Proofs.YtaanppihgldeaaaGreatDoor
set_option linter.unusedSimpArgs false
set_option linter.unusedVariables false
set_option linter.unusedVariables false
open Go.RowKit

def kemTo (vs : List Vt) (r : List Int) : Nat → Int
  | 0 => 0
  | k + 1 => kemTo vs r k + (vx vs k).c * swaps (vx vs k).r r
def kem (vs : List Vt) (r : List Int) : Int := kemTo vs r vs.length
theorem swaps_bd {m : Int} {xs ys : List Int} (h : rankOk m xs = true) : 0 ≤ swaps xs ys ∧ swaps xs ys ≤ 25 := by
  obtain ⟨m1, m5, lx, _⟩ := rankOk_facts h
  have := swOut_bd xs ys (by omega) xs.length
  unfold swaps; omega
theorem prod_25 {a b : Int} (ha : 0 ≤ a ∧ a ≤ 1000) (hb : 0 ≤ b ∧ b ≤ 25) : 0 ≤ a * b ∧ a * b ≤ 25000 := by
  refine ⟨Int.mul_nonneg ha.1 hb.1, ?_⟩
  have := Int.mul_le_mul ha.2 hb.2 hb.1 (by omega)
  omega
theorem kemTo_bd {m : Int} {vs : List Vt} (F : PF m vs) (r : List Int) : ∀ k, k ≤ vs.length → 0 ≤ kemTo vs r k ∧ kemTo vs r k ≤ 25000 * k
  | 0, _ => by simp [kemTo]
  | k + 1, h => by
    have ih := kemTo_bd F r k (by omega)
    have hv := vx_mem (vs := vs) (j := k) (by omega)
    have := prod_25 (F.c _ hv) (swaps_bd (ys := r) (F.r _ hv))
    rw [kemTo]; omega
set_option maxRecDepth 100000 in
set_option maxHeartbeats 1000000 in
theorem implKemenyScore (m : Int) (A : Option Addr) (n c : Nat) (vs : List Vt) (B : Option Addr) (d : Nat) (r : List Int) (w : World) (h : VotesAt w A n vs) (hn : n ≤ 1048576) (hx : ∀ v ∈ vs, v.r.length ≤ 1048576) (g : IntsAt w B r.length r) (hd : r.length ≤ d) (hp : profOk m vs = true) (hr : rankOk m r = true) :
    Calls Tryz.prog 127 #[.agg #[.int .i64 m, .slice A n c], .slice B r.length d] w fun e w' => e = .returned (.int .i64 (kem vs r)) ∧ Below w.heap.size w w' := by
  have g0 := g.below (alloc_below w (.cells #[.int .i64 m, .slice A n c] 24))
  obtain rfl := h.len
  have hB := alloc_below w (.cells #[.int .i64 m, .slice A vs.length c] 24)
  obtain ⟨x0, x1⟩ := PBox.new w m A vs.length c 24 rfl
  replace h := h.below hB
  generalize hw0 : w.alloc (.cells #[.int .i64 m, .slice A vs.length c] 24) = w0 at *
  have K := Lib.hid (implProfileOk m A vs.length c vs _ h hn hx)
  rw [hp] at K
  have F := Lib.hid (pf_of hp)
  have rl : r.length ≤ 5 := by have := (rankOk_facts hr).2; omega
  have K2 := Lib.hid (fun W hW => implRankingOk m B r.length d r W hW (by omega) hd)
  rw [hr] at K2
  have HR := Lib.hid hr
  have F5 := F.out.n
  unfold kem
  clear hx hp g hr
  go_enter Tryz.func127, Tryz.ntmps127
  go_wp2_with fail
  (with_reducible refine (K.out).mono ?_)
  rintro e w1 ⟨rfl, b1⟩
  replace x0 := cell_carry b1 x0
  replace x1 := cell_carry b1 x1
  replace g0 := g0.below b1
  replace h := h.below b1
  replace hB := hB.trans (b1.mono hB.size)
  clear b1
  go_wp2_with fail
  (with_reducible refine (K2.out _ g0).mono ?_)
  rintro e w2 ⟨rfl, rfl⟩
  clear K K2 hw0
  go_wp2
  go_loopw [5, 21] (fun s i wr => ∃ k : Nat, k ≤ vs.length ∧ i = .int .i64 k ∧ s = .int .i64 (kemTo vs r k) ∧ Below w1.heap.size w1 wr) (fun _ i _ => vs.length - (intOf i).toNat)
  case atStart => exact ⟨0, Nat.zero_le _, rfl, rfl, Below.refl _ _⟩
  case round =>
    obtain ⟨k, hk, rfl, rfl, hb⟩ := hrel
    by_cases hlt : k < vs.length
    · obtain ⟨b, o, A', c', rfl, hbl, hc1, hc2, hcc, hin⟩ := (h.below hb).at_ hlt
      have g1 := g0.below hb
      have hv := vx_mem hlt
      have bd := kemTo_bd F.out r k (by omega)
      have vr := F.out.r _ hv
      have vc := F.out.c _ hv
      have sb := swaps_bd (ys := r) vr
      have pb := prod_25 vc sb
      have HS : Hid (kemTo vs r (k + 1) = kemTo vs r k + (vx vs k).c * swaps (vx vs k).r r) := rfl
      generalize vx vs k = v at *
      generalize kemTo vs r k = s at *
      have b1 := alloc_below wr (.cells #[.slice A' v.r.length c', .int .i64 v.c] 44)
      obtain ⟨y0, y1⟩ := new_pair wr (.slice A' v.r.length c') (.int .i64 v.c) 44 rfl
      have hB2 := hb.trans (b1.mono hb.size)
      have hi2 := hin.below b1
      have g2 := g1.below b1
      generalize hw3 : wr.alloc (.cells #[.slice A' v.r.length c', .int .i64 v.c] 44) = w3 at *
      have K1 := Lib.hid (fun n => Calls.quiet_of_same (n := n) ((implSwapDistance A' c' v.r B d r m (w3.drewN n) (hi2.drewN n) hcc vr (g2.drewN n) hd HR.out).mono fun _ _ ⟨he, hw⟩ => ⟨he, hw.symm⟩))
      generalize swaps v.r r = y at *
      have ew : IntKind.i64.wrap (v.c * y) = v.c * y := IntWalk.i64_in _ (by omega)
      have ew2 : IntKind.i64.wrap (s + v.c * y) = s + v.c * y := IntWalk.i64_in _ (by omega)
      clear vr hi2 g2 g1 hin hb b1 hv
      go_wp2
      go_quiet ((with_reducible exact K1.out _))
      go_wp2
      go_roundw
      case rel => exact ⟨k + 1, by omega, by go_num, by rw [HS.out], hB2.trans (below_of_drewN rfl)⟩
      case measure => simp [intOf]; omega
    · obtain rfl : k = vs.length := by omega
      have hB2 := hB.trans (hb.mono hB.size)
      go_wp2
      go_ret
      exact ⟨rfl, hB2⟩
theorem rank_all {n : Nat} (h1 : 1 ≤ n) (h5 : n ≤ 5) : (allRankings (n : Int)).all (rankOk (n : Int)) = true := by
  obtain rfl | rfl | rfl | rfl | rfl : n = 1 ∨ n = 2 ∨ n = 3 ∨ n = 4 ∨ n = 5 := by omega
  all_goals decide +kernel
theorem rank_all' {m : Int} (h1 : 1 ≤ m) (h5 : m ≤ 5) {r : List Int} (h : r ∈ allRankings m) : rankOk m r = true := by
  obtain ⟨M, rfl⟩ : ∃ M : Nat, m = (M : Int) := ⟨m.toNat, by omega⟩
  exact List.all_eq_true.1 (rank_all (by omega) (by omega)) r h
theorem rank_some {m : Int} (h1 : 1 ≤ m) (h5 : m ≤ 5) : 0 < (allRankings m).length := by
  obtain ⟨M, rfl⟩ : ∃ M : Nat, m = (M : Int) := ⟨m.toNat, by omega⟩
  obtain rfl | rfl | rfl | rfl | rfl : M = 1 ∨ M = 2 ∨ M = 3 ∨ M = 4 ∨ M = 5 := by omega
  all_goals decide +kernel
/-- the place of the first ranking with the least cost among the first k -/
def minIx (f : List Int → Int) (rs : List (List Int)) : Nat → Nat
  | 0 => 0
  | k + 1 => if k = 0 then 0 else if f (rx rs k) < f (rx rs (minIx f rs k)) then k else minIx f rs k
theorem minIx_lt (f : List Int → Int) (rs : List (List Int)) : ∀ k, 0 < k → minIx f rs k < k
  | 0, h => absurd h (by omega)
  | k + 1, _ => by
    rw [minIx]
    split
    · omega
    · split
      · omega
      · have := minIx_lt f rs k (by omega); omega
def leastR (f : List Int → Int) (m : Int) : List Int := rx (allRankings m) (minIx f (allRankings m) (allRankings m).length)
set_option maxRecDepth 100000 in
set_option maxHeartbeats 1000000 in
theorem implLeastRanking (g : Nat) (lb : Array Value) (f : List Int → Int) (m : Int) (A : Option Addr) (n c : Nat) (vs : List Vt) (w : World) (h : VotesAt w A n vs) (hn : n ≤ 1048576) (hx : ∀ v ∈ vs, v.r.length ≤ 1048576) (hp : profOk m vs = true)
    (hen : ∀ (args : Array Value) (w : World), (callFunc g args).run Tryz.prog w = .ok (.enter g args) w)
    (hg : ∀ A' c' r W, rankOk m r = true → IntsAt W A' r.length r → r.length ≤ c' → Below w.heap.size w W → Calls Tryz.prog g (#[.slice A' r.length c'] ++ lb) W fun e W' => e = .returned (.int .i64 (f r)) ∧ Below W.heap.size W W') :
    Calls Tryz.prog 125 #[.agg #[.int .i64 m, .slice A n c], .func (.func g) #[] lb] w fun e w' => ∃ A' c' x y, e = .returned (.tuple #[.slice A' (leastR f m).length c', .int .i64 x, .int .i64 y]) ∧ IntsAt w' A' (leastR f m).length (leastR f m) ∧ (leastR f m).length ≤ c' ∧ Below w.heap.size w w' := by
  obtain rfl := h.len
  have hB := alloc_below w (.cells #[.int .i64 m, .slice A vs.length c] 24)
  obtain ⟨x0, x1⟩ := PBox.new w m A vs.length c 24 rfl
  replace h := h.below hB
  generalize hw0 : w.alloc (.cells #[.int .i64 m, .slice A vs.length c] 24) = w0 at *
  have K := Lib.hid (implProfileOk m A vs.length c vs _ h hn hx)
  rw [hp] at K
  have F := pf_of hp
  have RO := Lib.hid (fun r (hr : r ∈ allRankings m) => rank_all' F.m1 F.m5 hr)
  have RS := rank_some F.m1 F.m5
  have R3 := allRankings_len (m := m)
  have HG := Lib.hid hg
  have KA := Lib.hid (fun W => implAllRankings m W)
  unfold leastR
  have m1 := F.m1
  clear hx hp hg F
  generalize allRankings m = rs at *
  obtain ⟨T, hT⟩ : ∃ T, rx rs (minIx f rs rs.length) = T := ⟨_, rfl⟩
  rw [hT]
  have HT := Lib.hid hT
  clear hT
  go_enter Tryz.func125, Tryz.ntmps125
  go_wp2_with fail
  (with_reducible refine (K.out).mono ?_)
  rintro e w1 ⟨rfl, b1⟩
  replace x0 := cell_carry b1 x0
  replace hB := hB.trans (b1.mono hB.size)
  clear b1
  clear K hw0 x1
  go_wp2_with fail
  (with_reducible refine (KA.out _).mono ?_)
  rintro e w2 ⟨A2, c2, rfl, o2, b2⟩
  replace hB := hB.trans (b2.mono hB.size)
  have hr2 := o2.at_
  clear b2 o2 x0 KA
  go_wp2
  go_loopw [7, 8, 9, 11, 12, 20] (fun b l q _ _ i wr => ∃ k : Nat, k ≤ rs.length ∧ i = .int .i64 k ∧ (∃ z : Int, q = .int .i64 z ∧ 0 ≤ z ∧ z ≤ k) ∧ ((k = 0 ∧ b = .slice none 0 0 ∧ l = .int .i64 0) ∨ (0 < k ∧ ∃ ba bo c', b = .slice (some ⟨ba, bo, none⟩) (rx rs (minIx f rs k)).length c' ∧ (rx rs (minIx f rs k)).length ≤ c' ∧ IntsAt wr (some ⟨ba, bo, none⟩) (rx rs (minIx f rs k)).length (rx rs (minIx f rs k)) ∧ l = .int .i64 (f (rx rs (minIx f rs k))))) ∧ Below w2.heap.size w2 wr) (fun _ _ _ _ _ i _ => rs.length - (intOf i).toNat)
  case atStart => exact ⟨0, Nat.zero_le _, rfl, ⟨0, rfl, by omega, by omega⟩, .inl ⟨rfl, rfl, rfl⟩, Below.refl _ _⟩
  case round =>
    obtain ⟨k, hk, rfl, ⟨z, rfl, z0, zk⟩, hst, hb⟩ := hrel
    by_cases hlt : k < rs.length
    · obtain ⟨b, o, A', c', rfl, _, hc1, hcc, hin⟩ := (hr2.below hb).at_ hlt
      have ro := RO.out _ (rx_mem hlt)
      have rl := (rankOk_facts ro).2.2.1
      obtain ⟨ba, bo, rfl, _, _⟩ := hin.at_ (show 0 < (rx rs k).length by omega)
      have KK := Lib.hid (HG.out (some ⟨ba, bo, none⟩) c' (rx rs k) wr ro hin hcc (hB.trans (hb.mono hB.size)))
      have HS : Hid (minIx f rs (k + 1) = if k = 0 then 0 else if f (rx rs k) < f (rx rs (minIx f rs k)) then k else minIx f rs k) := rfl
      rcases hst with ⟨h0, rfl, rfl⟩ | ⟨h0, pa, po, cp, rfl, hcp, hinp, rfl⟩
      · have he := Lib.run_eql_slice_nil (P := Tryz.prog) wr 27 3 none 0 0 0 0 Tryz.underlying27
        simp only [Option.isNone_none] at he
        have HE : Hid (minIx f rs (k + 1) = k) := by have := HS.out; rw [if_pos h0] at this; rw [h0] at this ⊢; exact this
        clear h0 HS
        obtain ⟨y, hy⟩ : ∃ y, f (rx rs k) = y := ⟨_, rfl⟩
        rw [hy] at KK
        have HY := Lib.hid hy
        clear ro hy
        go_wp2_with fail
        (with_reducible refine KK.out.mono ?_)
        rintro e w3 ⟨rfl, b3⟩
        replace he := Lib.run_eql_slice_nil (P := Tryz.prog) w3 27 3 none 0 0 0 0 Tryz.underlying27
        simp only [Option.isNone_none] at he
        replace hin := hin.below b3
        replace hb := hb.trans (b3.mono hb.size)
        clear b3
        go_wp2
        go_roundw
        case rel => exact ⟨k + 1, by omega, by go_num, ⟨1, rfl, by omega, by omega⟩, .inr ⟨by omega, ba, bo, c', by rw [HE.out], by rw [HE.out]; exact hcc, by rw [HE.out]; exact hin, by rw [HE.out, HY.out]⟩, hb⟩
        case measure => simp [intOf]; omega
      · rw [if_neg (by omega)] at HS
        obtain ⟨y, hy⟩ : ∃ y, f (rx rs k) = y := ⟨_, rfl⟩
        rw [hy] at KK HS
        have HY := Lib.hid hy
        clear ro hy
        obtain ⟨u, hu⟩ : ∃ u, f (rx rs (minIx f rs k)) = u := ⟨_, rfl⟩
        rw [hu] at HS ⊢
        have HU := Lib.hid hu
        clear hu
        obtain ⟨p, hp⟩ : ∃ p, minIx f rs k = p := ⟨_, rfl⟩
        rw [hp] at HS hcp hinp HU ⊢
        clear hp
        by_cases hyu : y < u
        · rw [if_pos hyu] at HS
          go_wp2_with fail
          (with_reducible refine KK.out.mono ?_)
          rintro e w3 ⟨rfl, b3⟩
          have he := Lib.run_eql_slice_nil (P := Tryz.prog) w3 27 3 (some ⟨pa, po, none⟩) (rx rs p).length cp 0 0 Tryz.underlying27
          simp only [Option.isNone_some] at he
          replace hin := hin.below b3
          replace hb := hb.trans (b3.mono hb.size)
          clear b3
          go_wp2
          go_roundw
          case rel => exact ⟨k + 1, by omega, by go_num, ⟨1, rfl, by omega, by omega⟩, .inr ⟨by omega, ba, bo, c', by rw [HS.out], by rw [HS.out]; exact hcc, by rw [HS.out]; exact hin, by rw [HS.out, HY.out]⟩, hb⟩
          case measure => simp [intOf]; omega
        · rw [if_neg hyu] at HS
          by_cases hyu2 : y = u
          · subst hyu2
            go_wp2_with fail
            (with_reducible refine KK.out.mono ?_)
            rintro e w3 ⟨rfl, b3⟩
            have he := Lib.run_eql_slice_nil (P := Tryz.prog) w3 27 3 (some ⟨pa, po, none⟩) (rx rs p).length cp 0 0 Tryz.underlying27
            simp only [Option.isNone_some] at he
            replace hinp := hinp.below b3
            replace hb := hb.trans (b3.mono hb.size)
            clear b3
            go_wp2
            go_roundw
            case rel => exact ⟨k + 1, by omega, by go_num, ⟨z + 1, rfl, by omega, by omega⟩, .inr ⟨by omega, pa, po, cp, by rw [HS.out], by rw [HS.out]; exact hcp, by rw [HS.out]; exact hinp, by rw [HS.out, HU.out]⟩, hb⟩
            case measure => simp [intOf]; omega
          · have e3 : (y == u) = false := by rw [beq_eq_false_iff_ne]; exact hyu2
            clear hyu2
            go_wp2_with fail
            (with_reducible refine KK.out.mono ?_)
            rintro e w3 ⟨rfl, b3⟩
            have he := Lib.run_eql_slice_nil (P := Tryz.prog) w3 27 3 (some ⟨pa, po, none⟩) (rx rs p).length cp 0 0 Tryz.underlying27
            simp only [Option.isNone_some] at he
            replace hinp := hinp.below b3
            replace hb := hb.trans (b3.mono hb.size)
            clear b3
            go_wp2
            go_roundw
            case rel => exact ⟨k + 1, by omega, by go_num, ⟨z, rfl, by omega, by omega⟩, .inr ⟨by omega, pa, po, cp, by rw [HS.out], by rw [HS.out]; exact hcp, by rw [HS.out]; exact hinp, by rw [HS.out, HU.out]⟩, hb⟩
            case measure => simp [intOf]; omega
    · obtain rfl : k = rs.length := by omega
      rcases hst with ⟨h0, _, _⟩ | ⟨_, ba, bo, c', rfl, hcc, hin, rfl⟩
      · omega
      rw [HT.out] at hcc hin ⊢
      have hB2 := hB.trans (hb.mono hB.size)
      go_wp2
      go_ret3
      exact ⟨_, _, _, _, rfl, hin, hcc, hB2⟩
/-- Kemeny's ranking of a valid profile -/
def kemenyR (m : Int) (vs : List Vt) : List Int := leastR (kem vs) m
set_option maxHeartbeats 400000 in
theorem implKemeny (m : Int) (A : Option Addr) (n c : Nat) (vs : List Vt) (w : World) (h : VotesAt w A n vs) (hn : n ≤ 1048576) (hx : ∀ v ∈ vs, v.r.length ≤ 1048576) (hp : profOk m vs = true) :
    Calls Tryz.prog 70 #[.agg #[.int .i64 m, .slice A n c]] w fun e w' => ∃ A' c', e = .returned (.slice A' (kemenyR m vs).length c') ∧ IntsAt w' A' (kemenyR m vs).length (kemenyR m vs) ∧ (kemenyR m vs).length ≤ c' ∧ Below w.heap.size w w' := by
  obtain rfl := h.len
  have hB := alloc_below w (.cells #[.int .i64 m, .slice A vs.length c] 24)
  obtain ⟨x0, x1⟩ := PBox.new w m A vs.length c 24 rfl
  replace h := h.below hB
  generalize hw0 : w.alloc (.cells #[.int .i64 m, .slice A vs.length c] 24) = w0 at *
  have K := Lib.hid (implLeastRanking 126 #[.pointer (some ⟨w.heap.size, 0, none⟩)] (kem vs) m A vs.length c vs w0 h hn hx hp (enters Tryz.func126 (by kernel_rfl) rfl) (fun A' c' r W hr hin hcc hb => by
    have x0' := cell_carry hb x0
    have x1' := cell_carry hb x1
    have h' := h.below hb
    have hB := Below.refl W.heap.size W
    have K := Lib.hid (implKemenyScore m A vs.length c vs A' c' r W h' hn hx hin hcc hp hr)
    clear x0 x1 h h' hw0
    go_enter Tryz.func126, Tryz.ntmps126
    go_wp2_with fail
    (with_reducible refine (K.out).mono ?_)
    rintro e w1 ⟨rfl, b1⟩
    replace hB := hB.trans (b1.mono hB.size)
    clear b1
    go_wp2
    go_ret
    exact ⟨rfl, hB⟩))
  have HT : leastR (kem vs) m = kemenyR m vs := rfl
  rw [HT] at K
  generalize kemenyR m vs = T at *
  clear HT hx
  go_enter Tryz.func70, Tryz.ntmps70
  go_wp2_with fail
  (with_reducible refine K.out.mono ?_)
  rintro e w1 ⟨A1, c1, x, y, rfl, i1, l1, b1⟩
  go_wp2
  go_ret
  exact ⟨_, _, rfl, i1, l1, hB.trans (b1.mono hB.size)⟩
end Go.Proofs.YtaanppihgldeaaaGreatDoor
namespace Go.Proofs.YtaanppihgldeaaaGreatDoor
set_option linter.unusedSimpArgs false
set_option linter.unusedVariables false
set_option linter.unusedVariables false
open Go.RowKit

/-- a row: its slice and its numbers -/
abbrev ZE := Value × List Int
def gz (S : List ZE) (j : Nat) : ZE := S.getD j (.int .i64 0, [])
theorem gz_lt {S : List ZE} {j : Nat} (h : j < S.length) : gz S j = S[j] := by unfold gz; simp [List.getD, h]
theorem gz_mem {S : List ZE} {j : Nat} (h : j < S.length) : gz S j ∈ S := by rw [gz_lt h]; exact List.getElem_mem h
theorem take_gz {S : List ZE} {k : Nat} (h : k < S.length) : S.take (k + 1) = S.take k ++ [gz S k] := by
  rw [List.take_succ_eq_append_getElem h, gz_lt h]
theorem gz_map {S : List ZE} {j : Nat} (h : j < S.length) : (S.map Prod.fst)[j]? = some (gz S j).1 := by
  rw [List.getElem?_map, List.getElem?_eq_getElem h, gz_lt h]; rfl
/-- where x goes among the first j of S, looked for from the right -/
def slideK (key : ZE → Int) (S : List ZE) (x : ZE) : Nat → Nat
  | 0 => 0
  | j + 1 => if key (gz S j) < key x then slideK key S x j else j + 1
def insK (key : ZE → Int) (S : List ZE) (x : ZE) : List ZE := S.take (slideK key S x S.length) ++ x :: S.drop (slideK key S x S.length)
def sortK (key : ZE → Int) (L : List ZE) : Nat → List ZE
  | 0 => []
  | k + 1 => insK key (sortK key L k) (gz L k)
theorem slideK_le (key : ZE → Int) (S : List ZE) (x : ZE) : ∀ j, slideK key S x j ≤ j
  | 0 => Nat.le_refl _
  | j + 1 => by have := slideK_le key S x j; unfold slideK; split <;> omega
theorem insK_perm (key : ZE → Int) (S : List ZE) (x : ZE) : (insK key S x).Perm (S ++ [x]) := by
  unfold insK
  refine (List.perm_middle).trans ?_
  rw [List.take_append_drop]
  exact (List.perm_append_comm (l₁ := [x]) (l₂ := S))
theorem sortK_perm (key : ZE → Int) (L : List ZE) : ∀ k, k ≤ L.length → (sortK key L k).Perm (L.take k)
  | 0, _ => by simp [sortK]
  | k + 1, h => by
    rw [take_gz (by omega)]
    exact (insK_perm _ _ _).trans ((sortK_perm key L k (by omega)).append_right _)
theorem sortK_len {key : ZE → Int} {L : List ZE} {k : Nat} (h : k ≤ L.length) : (sortK key L k).length = k := by
  rw [(sortK_perm key L k h).length_eq, List.length_take]; omega
theorem sortK_mem {key : ZE → Int} {L : List ZE} {k : Nat} (h : k ≤ L.length) {x : ZE} (hx : x ∈ sortK key L k) : x ∈ L := List.mem_of_mem_take ((sortK_perm key L k h).mem_iff.1 hx)
theorem sortK_all (key : ZE → Int) (L : List ZE) : (sortK key L L.length).Perm L := by have := sortK_perm key L L.length (Nat.le_refl _); rwa [List.take_length] at this
/-- the rows while x is on its way: it stands at place j -/
def wayK (S : List ZE) (x : ZE) (tail : List ZE) (j : Nat) : List ZE := S.take j ++ x :: (S.drop j ++ tail)
theorem wayK_len {S tail : List ZE} {x : ZE} {j : Nat} (h : j ≤ S.length) : (wayK S x tail j).length = S.length + 1 + tail.length := by unfold wayK; simp; omega
theorem wayK_at {S tail : List ZE} {x : ZE} {j : Nat} (h : j ≤ S.length) : ((wayK S x tail j).map Prod.fst)[j]? = some x.1 := by
  rw [gz_map (by rw [wayK_len h]; omega), gz_lt (by rw [wayK_len h]; omega)]
  unfold wayK
  rw [List.getElem_append_right (by simp; omega)]
  simp [Nat.min_eq_left h]
theorem wayK_left {S tail : List ZE} {x : ZE} {j : Nat} (h : j < S.length) : ((wayK S x tail (j + 1)).map Prod.fst)[j]? = some (gz S j).1 := by
  rw [gz_map (by rw [wayK_len (by omega)]; omega), gz_lt (by rw [wayK_len (by omega)]; omega), gz_lt h]
  unfold wayK
  rw [List.getElem_append_left (by simp; omega)]
  simp
theorem wayK_step {S tail : List ZE} {x : ZE} {j : Nat} (h : j < S.length) : ((((wayK S x tail (j + 1)).map Prod.fst).set (j + 1) (gz S j).1).set j x.1) = (wayK S x tail j).map Prod.fst := by
  rw [← List.map_set, ← List.map_set]
  congr 1
  have e1 : S.take (j + 1) = S.take j ++ [gz S j] := take_gz h
  have e2 : S.drop j = gz S j :: S.drop (j + 1) := by rw [gz_lt h]; exact List.drop_eq_getElem_cons h
  have e3 : (S.take j).length = j := by simp; omega
  unfold wayK
  rw [e1, e2]
  generalize S.take j = a at *
  generalize S.drop (j + 1) = b at *
  subst e3
  simp
theorem wayK_start {S tail : List ZE} {x : ZE} : wayK S x tail S.length = S ++ x :: tail := by unfold wayK; simp
theorem wayK_end {key : ZE → Int} {S tail : List ZE} {x : ZE} : wayK S x tail (slideK key S x S.length) = insK key S x ++ tail := by unfold wayK insK; simp
/-- the slices of Z own its rows, in blocks from lo on, below hi, no two in one block -/
def RowsZ (w : World) (lo hi : Nat) (Z : List ZE) : Prop := (∀ p ∈ Z, OwnI w lo hi p.1 p.2) ∧ Z.Pairwise (fun p q => Apart p.1 q.1)
theorem rowsZ_of {w : World} {lo hi : Nat} {us : List Value} {xss : List (List Int)} (h : RowsV w lo hi us xss) : RowsZ w lo hi (us.zip xss) := by
  obtain ⟨h1, h2, h3⟩ := h
  refine ⟨fun p hp => ?_, ?_⟩
  · obtain ⟨i, hi, rfl⟩ := List.getElem_of_mem hp
    rw [List.length_zip] at hi
    obtain ⟨u, e, ho⟩ := h2 i (by omega)
    rw [List.getElem?_eq_getElem (by omega)] at e
    cases e
    rw [List.getElem_zip, ← rx_lt (by omega)]
    exact ho
  · rw [List.pairwise_iff_getElem] at h3 ⊢
    intro i j hi hj hij
    rw [List.length_zip] at hi hj
    rw [List.getElem_zip, List.getElem_zip]
    exact h3 i j (by omega) (by omega) hij
theorem RowsZ.toV {w : World} {lo hi : Nat} {Z : List ZE} (h : RowsZ w lo hi Z) : RowsV w lo hi (Z.map Prod.fst) (Z.map Prod.snd) := by
  refine ⟨by simp, fun i hi => ?_, ?_⟩
  · rw [List.length_map] at hi
    refine ⟨(Z[i]).1, by rw [List.getElem?_map, List.getElem?_eq_getElem hi]; rfl, ?_⟩
    rw [rx_lt (by simpa using hi), List.getElem_map]
    exact h.1 _ (List.getElem_mem hi)
  · rw [List.pairwise_map]; exact h.2
theorem RowsZ.perm {w : World} {lo hi : Nat} {Z Z' : List ZE} (h : RowsZ w lo hi Z) (p : Z'.Perm Z) : RowsZ w lo hi Z' :=
  ⟨fun q hq => h.1 q (p.mem_iff.1 hq), (p.pairwise_iff fun h => h.symm).2 h.2⟩
theorem RowsZ.sub {w : World} {lo hi : Nat} {Z Z' : List ZE} (h : RowsZ w lo hi Z) (p : Z'.Sublist Z) : RowsZ w lo hi Z' :=
  ⟨fun q hq => h.1 q (p.subset hq), h.2.sublist p⟩
theorem RowsZ.keep {w w' : World} {lo hi : Nat} {Z : List ZE} (h : RowsZ w lo hi Z) (k : ∀ p ∈ Z, OwnI w lo hi p.1 p.2 → OwnI w' lo hi p.1 p.2) : RowsZ w' lo hi Z :=
  ⟨fun q hq => k q hq (h.1 q hq), h.2⟩
theorem RowsZ.belowW {w w' : World} {lo hi : Nat} {Z : List ZE} (h : RowsZ w lo hi Z) (b : Below w.heap.size w w') : RowsZ w' lo hi Z := h.keep fun _ _ o => o.belowW b
/-- a change of the outer block alone -/
theorem RowsZ.only {w w' : World} {lo lo2 hi g n c : Nat} {us : List Value} {Z : List ZE} (h : RowsZ w lo hi Z) (h1 : w.ownsRow lo2 27 1 (.slice (some ⟨g, 0, none⟩) n c) n us) (ho : Only g (g + 1) w w') : RowsZ w' lo hi Z := by
  refine h.keep fun p _ o => ?_
  have hne := ne_block h1 o
  refine ⟨⟨o.1.1, ?_⟩, o.2⟩
  rcases o.1.2 with h0 | ⟨g', cap, cur, hv, hgb, hg', r⟩
  · exact .inl h0
  · have hne2 : g' ≠ g := by rintro rfl; exact hne (by rw [hv]; rfl)
    exact .inr ⟨g', cap, cur, hv, hgb, by rw [ho.block g' (Array.getElem?_eq_some_iff.1 hg').1 (by omega)]; exact hg', r⟩
theorem ownsRow_onlyD {w : World} {lo n : Nat} {v : Value} {vs : List Value} (h : w.ownsRow lo 27 1 v n vs) : w.drew.ownsRow lo 27 1 v n vs := h
set_option maxRecDepth 100000 in
set_option maxHeartbeats 4000000 in
theorem insertionZ_any (g c n lo : Nat) (fn : Nat) (lb : Array Value) (key : ZE → Int) (Z : List ZE) (w : World) (ho : w.ownsRow lo 27 1 (.slice (some ⟨g, 0, none⟩) n c) n (Z.map Prod.fst)) (hZ : Z.length = n)
    (hn : 1 ≤ n) (hn20 : n ≤ 20) (hform : ∀ p ∈ Z, ∃ A m d, p.1 = .slice A m d) (hkey : ∀ p ∈ Z, -100000 ≤ key p ∧ key p ≤ 100000)
    (hen : ∀ (args : Array Value) (w : World), (callFunc fn args).run Tryz.prog w = .ok (.enter fn args) w)
    (hg : ∀ p ∈ Z, ∀ q ∈ Z, ∀ W, Only g (g + 1) w W → Calls Tryz.prog fn (#[p.1, q.1] ++ lb) W fun e W' => e = .returned (.int .i64 (key q - key p)) ∧ Below W.heap.size W W') :
    Calls Tryz.prog 231 #[.slice (some ⟨g, 0, none⟩) n c, .int .i64 0, .int .i64 (n : Int), .func (.func fn) #[] lb] w fun e w' =>
      (∃ v, e = .returned v) ∧ w'.ownsRow lo 27 1 (.slice (some ⟨g, 0, none⟩) n c) n ((sortK key Z n).map Prod.fst) ∧ Only g (g + 1) w w' := by
  have HG := Lib.hid hg
  have HF := Lib.hid hform
  have HK := Lib.hid hkey
  clear hg hform hkey
  go_enter Tryz.func231, Tryz.ntmps231
  go_wp2
  go_loopw [8, 9] (fun i_ _ wr => ∃ i : Nat, 1 ≤ i ∧ i ≤ n ∧ i_ = .int .i64 i ∧ wr.ownsRow lo 27 1 (.slice (some ⟨g, 0, none⟩) n c) n ((sortK key Z i ++ Z.drop i).map Prod.fst) ∧ Only g (g + 1) w wr) (fun i_ _ _ => n - (intOf i_).toNat)
  case atStart =>
    refine ⟨1, by omega, by omega, rfl, ?_, Only.refl _ _ _⟩
    have e : sortK key Z 1 ++ Z.drop 1 = Z := by
      have h0 : (0 : Nat) < Z.length := by omega
      show [gz Z 0] ++ Z.drop 1 = Z
      rw [gz_lt h0]
      exact (List.drop_eq_getElem_cons h0).symm
    rw [e]; exact ho
  case round =>
    obtain ⟨i, i1, i2, rfl, hown, hon⟩ := hrel
    obtain ⟨wo, rfl⟩ : ∃ wo, wo = wr := ⟨_, rfl⟩
    by_cases hlt : i < n
    · have hSL := sortK_len (key := key) (L := Z) (k := i) (by omega)
      have hd : Z.drop i = gz Z i :: Z.drop (i + 1) := by rw [gz_lt (by omega)]; exact List.drop_eq_getElem_cons (by omega)
      have hST : sortK key Z i ++ Z.drop i = wayK (sortK key Z i) (gz Z i) (Z.drop (i + 1)) i := by
        have := wayK_start (S := sortK key Z i) (x := gz Z i) (tail := Z.drop (i + 1))
        rw [hSL] at this
        rw [this, hd]
      rw [hST] at hown
      have HEND : Hid (wayK (sortK key Z i) (gz Z i) (Z.drop (i + 1)) (slideK key (sortK key Z i) (gz Z i) i) = sortK key Z (i + 1) ++ Z.drop (i + 1)) := by
        have := wayK_end (key := key) (S := sortK key Z i) (tail := Z.drop (i + 1)) (x := gz Z i)
        rw [hSL] at this
        exact this
      have HAT := Lib.hid (fun j (hj : j < i) => sortK_mem (key := key) (L := Z) (k := i) (by omega) (gz_mem (S := sortK key Z i) (j := j) (by omega)))
      have hsl := slideK_le key (sortK key Z i) (gz Z i) i
      have HX := Lib.hid (gz_mem (S := Z) (j := i) (by omega))
      clear hST hd
      generalize sortK key Z i = S at *
      generalize gz Z i = x at *
      obtain ⟨tl, htl⟩ : ∃ tl, Z.drop (i + 1) = tl := ⟨_, rfl⟩
      rw [htl] at hown HEND
      have HTL := Lib.hid htl
      clear htl
      obtain ⟨p, hp⟩ : ∃ p, slideK key S x i = p := ⟨_, rfl⟩
      have HP := Lib.hid hp
      have HSL := Lib.hid hSL
      rw [hp] at hsl HEND
      clear hp hSL
      go_wp2
      go_loopw [9] (fun j_ wr => ∃ j : Nat, p ≤ j ∧ j ≤ i ∧ slideK key S x j = p ∧ j_ = .int .i64 j ∧ wr.ownsRow lo 27 1 (.slice (some ⟨g, 0, none⟩) n c) n ((wayK S x tl j).map Prod.fst) ∧ Only g (g + 1) w wr) (fun j_ _ => (intOf j_).toNat)
      case atStart => exact ⟨i, hsl, Nat.le_refl _, HP.out, rfl, hown, hon⟩
      case round =>
        obtain ⟨j, j1, j2, hpj, rfl, hown, hon⟩ := hrel
        have HPJ := Lib.hid hpj
        clear hpj
        cases j with
        | zero =>
          have hp0 : p = 0 := by omega
          have e0 : decide ((0 : Int) < ((0 : Nat) : Int)) = false := rfl
          have HE := Lib.hid (show wayK S x tl 0 = sortK key Z (i + 1) ++ tl from by rw [← HEND.out, hp0])
          rw [HE.out] at hown
          clear hp0 j1
          go_wp2
          go_quiet (fail)
          go_wp2
          go_roundw
          case rel => exact ⟨i + 1, by omega, by omega, by go_num, by rw [HTL.out]; exact hown, hon.trans (Only.of_below (B := wr.heap.size) (below_of_drewN rfl) (Nat.le_refl _))⟩
          case measure => simp [intOf]; omega
        | succ j =>
          have t0 : (0 : Int) < ((j + 1 : Nat) : Int) := by omega
          have hjS : j < S.length := by rw [HSL.out]; omega
          have cx := World.ownsRow.cellAt hown (j + 1) (by omega)
          rw [wayK_at (by omega)] at cx
          have cy := World.ownsRow.cellAt hown j (by omega)
          rw [wayK_left hjS] at cy
          have ym := HAT.out j (by omega)
          have KK := Lib.hid (fun (L : Later wr) => L.call (HG.out x HX.out (gz S j) ym L.W (hon.trans (Only.of_below L.h (Nat.le_refl _)))))
          have ky := HK.out _ ym
          have kx := HK.out _ HX.out
          have HWS := Lib.hid (wayK_step (x := x) (tail := tl) hjS)
          have HPJ2 : Hid (slideK key S x (j + 1) = if key (gz S j) < key x then slideK key S x j else j + 1) := rfl
          have HPL := Lib.hid (slideK_le key S x j)
          obtain ⟨Ax, mx, dx, ex⟩ := HF.out _ HX.out
          obtain ⟨Ay, my, dy, ey⟩ := HF.out _ ym
          generalize gz S j = y at *
          obtain ⟨xv, xr⟩ := x
          obtain ⟨yv, yr⟩ := y
          simp only at ex ey
          subst ex
          subst ey
          have q1 : IntKind.i64.wrap (((j + 1 : Nat) : Int) - 1) = (j : Int) := by rw [IntWalk.i64_in _ (by omega)]; omega
          have q2 : ((j + 1 : Nat) : Int) - 1 = (j : Int) := by omega
          have q3 : (j : Int) < (n : Int) := by omega
          have q4 : ((j + 1 : Nat) : Int) < (n : Int) := by omega
          have r1 : ∀ L : Later wr, L.W.cell? ⟨g, j + 1, none⟩ = some (.slice Ax mx dx) := fun L => L.cell cx
          have r2 : ∀ L : Later wr, L.W.cell? ⟨g, j, none⟩ = some (.slice Ay my dy) := fun L => L.cell cy
          obtain ⟨kxv, hkx⟩ : ∃ v, key (Value.slice Ax mx dx, xr) = v := ⟨_, rfl⟩
          obtain ⟨kyv, hky⟩ : ∃ v, key (Value.slice Ay my dy, yr) = v := ⟨_, rfl⟩
          rw [hkx] at KK HPJ2 kx
          rw [hky] at KK HPJ2 ky
          clear hkx hky ym
          obtain ⟨dd, hdd⟩ : ∃ dd, kyv - kxv = dd := ⟨_, rfl⟩
          rw [hdd] at KK
          by_cases hlt2 : kyv < kxv
          · have hpj2 : slideK key S (Value.slice Ax mx dx, xr) j = p := by rw [← HPJ.out, HPJ2.out, if_pos hlt2]
            have hpl : p ≤ j := by rw [← hpj2]; exact HPL.out
            have HPJ3 := Lib.hid hpj2
            have t5 : decide (dd < 0) = true := decide_eq_true (by omega)
            clear hlt2 hdd hpj2 HPJ HPJ2
            go_upto_region 4 with fail
            refine wp_region_later (by kernel_rfl) (by kernel_rfl) ?_
            repeat (go_big_quiet_step (first | (with_reducible exact KK.out _)))
            (refine wpQuiet_nil ?_; rintro wl ⟨L_, hwl_⟩; have hbl := L_.h; rw [← hwl_] at hbl; clear hwl_ L_)
            have hown2 := ownsRow_below hown hbl
            have hon2 := hon.trans (Only.of_below (lo := g) (hi := g + 1) hbl (Nat.le_refl _))
            have cx2 : wl.cell? ⟨g, j + 1, none⟩ = some (.slice Ax mx dx) := cell_carry hbl cx
            have cy2 : wl.cell? ⟨g, j, none⟩ = some (.slice Ay my dy) := cell_carry hbl cy
            clear cx cy hown hon KK r1 r2 hbl
            have fx := World.ownsRow.frozenAt hown2 (j + 1)
            have fy := World.ownsRow.frozenAt hown2 j
            go_wp2
            go_region
            obtain ⟨oa, na⟩ := World.ownsRow.stored hown2 (j + 1) (.slice Ay my dy)
            obtain ⟨ob, nb⟩ := World.ownsRow.stored oa j (.slice Ax mx dx)
            rw [HWS.out] at ob
            have hon3 := Lib.hid ((hon2.trans ((Only.of_grown na (fun k e => by cases e; omega)).trans (Only.of_grown nb (fun k e => by cases e; omega)))).trans (Only.of_below (lo := g) (hi := g + 1) ((Below.refl _ _).drew) (Nat.le_refl _)))
            have OB := Lib.hid (ownsRow_onlyD ob)
            clear oa na nb ob hown2 hon2 cx2 cy2 fx fy
            go_wp2
            go_roundw
            case rel => exact ⟨j, hpl, by omega, HPJ3.out, by go_num, OB.out, hon3.out⟩
            case measure => simp [intOf] <;> omega
          · have t5 : decide (dd < 0) = false := decide_eq_false (by omega)
            have hpj2 : j + 1 = p := by rw [← HPJ.out, HPJ2.out, if_neg hlt2]
            have HE := Lib.hid (show wayK S (Value.slice Ax mx dx, xr) tl (j + 1) = sortK key Z (i + 1) ++ tl from by rw [← HEND.out, hpj2])
            rw [HE.out] at hown
            clear hlt2 hdd hpj2 HPJ HPJ2
            go_upto_region 4 with fail
            refine wp_region_later (by kernel_rfl) (by kernel_rfl) ?_
            repeat (go_big_quiet_step (first | (with_reducible exact KK.out _)))
            (refine wpQuiet_nil ?_; rintro wl ⟨L_, hwl_⟩; have hbl := L_.h; rw [← hwl_] at hbl; clear hwl_ L_)
            have hown2 := ownsRow_below hown hbl
            have hon2 := hon.trans (Only.of_below (lo := g) (hi := g + 1) hbl (Nat.le_refl _))
            clear cx cy hown hon KK r1 r2 hbl
            go_wp2
            go_roundw
            case rel => exact ⟨i + 1, by omega, by omega, by go_num, by rw [HTL.out]; exact hown2, hon2⟩
            case measure => simp [intOf]; omega
    · obtain rfl : i = n := by omega
      have e : sortK key Z i ++ Z.drop i = sortK key Z i := by rw [List.drop_eq_nil_of_le (by omega), List.append_nil]
      rw [e] at hown
      go_wp2
      go_end0
      exact ⟨⟨_, rfl⟩, hown, hon⟩
set_option maxRecDepth 100000 in
set_option maxHeartbeats 1000000 in
theorem stableZ_any (g c n lo : Nat) (fn : Nat) (lb : Array Value) (key : ZE → Int) (Z : List ZE) (w : World) (ho : w.ownsRow lo 27 1 (.slice (some ⟨g, 0, none⟩) n c) n (Z.map Prod.fst)) (hZ : Z.length = n)
    (hn : 1 ≤ n) (hn20 : n < 20) (hform : ∀ p ∈ Z, ∃ A m d, p.1 = .slice A m d) (hkey : ∀ p ∈ Z, -100000 ≤ key p ∧ key p ≤ 100000)
    (hen : ∀ (args : Array Value) (w : World), (callFunc fn args).run Tryz.prog w = .ok (.enter fn args) w)
    (hg : ∀ p ∈ Z, ∀ q ∈ Z, ∀ W, Only g (g + 1) w W → Calls Tryz.prog fn (#[p.1, q.1] ++ lb) W fun e W' => e = .returned (.int .i64 (key q - key p)) ∧ Below W.heap.size W W') :
    Calls Tryz.prog 208 #[.slice (some ⟨g, 0, none⟩) n c, .int .i64 (n : Int), .func (.func fn) #[] lb] w fun e w' =>
      (∃ v, e = .returned v) ∧ w'.ownsRow lo 27 1 (.slice (some ⟨g, 0, none⟩) n c) n ((sortK key Z n).map Prod.fst) ∧ Only g (g + 1) w w' := by
  have HI := Lib.hid (insertionZ_any g c n lo fn lb key Z w ho hZ hn (by omega) hform hkey hen hg)
  clear hg hform hkey ho hZ hen
  go_enter Tryz.func208, Tryz.ntmps208
  go_wp2
  go_loopw [7, 8] (fun a_ b_ wr => a_ = .int .i64 0 ∧ b_ = .int .i64 20 ∧ wr = w) (fun _ _ _ => 0)
  case atStart => exact ⟨rfl, rfl, rfl⟩
  case round =>
    obtain ⟨rfl, rfl, rfl⟩ := hrel
    have t0 : ¬ ((20 : Int) ≤ (n : Int)) := by omega
    go_wp2_with fail
    (with_reducible refine HI.out.mono ?_)
    rintro e w2 ⟨⟨v, rfl⟩, ho2, hon⟩
    have t1 : ¬ ((20 : Int) < (n : Int)) := by omega
    go_wp2
    go_loopw [6, 7, 8, 9] (fun s_ _ _ _ wr => s_ = .int .i64 20 ∧ wr = w2) (fun _ _ _ _ _ => 0)
    case atStart => exact ⟨rfl, rfl⟩
    case round =>
      obtain ⟨rfl, rfl⟩ := hrel
      go_wp2
      go_end0
      exact ⟨⟨_, rfl⟩, ho2, hon⟩
theorem stableZ_nil (A : Option Addr) (c : Nat) (fn : Nat) (lb : Array Value) (w : World) :
    Calls Tryz.prog 208 #[.slice A 0 c, .int .i64 0, .func (.func fn) #[] lb] w fun e w' => (∃ v, e = .returned v) ∧ w' = w := by
  have HI : Hid (Calls Tryz.prog 231 #[.slice A 0 c, .int .i64 0, .int .i64 0, .func (.func fn) #[] lb] w fun e w' => (∃ v, e = .returned v) ∧ w' = w) := by
    show Calls _ _ _ _ _
    go_enter Tryz.func231, Tryz.ntmps231
    go_wp2
    go_loopw [8, 9] (fun i_ _ wr => i_ = .int .i64 1 ∧ wr = w) (fun _ _ _ => 0)
    case atStart => exact ⟨rfl, rfl⟩
    case round =>
      obtain ⟨rfl, rfl⟩ := hrel
      go_wp2
      go_end0
      exact ⟨⟨_, rfl⟩, rfl⟩
  go_enter Tryz.func208, Tryz.ntmps208
  go_wp2
  go_loopw [7, 8] (fun a_ b_ wr => a_ = .int .i64 0 ∧ b_ = .int .i64 20 ∧ wr = w) (fun _ _ _ => 0)
  case atStart => exact ⟨rfl, rfl, rfl⟩
  case round =>
    obtain ⟨rfl, rfl, rfl⟩ := hrel
    go_wp2_with fail
    (with_reducible refine HI.out.mono ?_)
    rintro e w2 ⟨⟨v, rfl⟩, rfl⟩
    go_wp2
    go_loopw [6, 7, 8, 9] (fun s_ _ _ _ wi => s_ = .int .i64 20 ∧ wi = w2) (fun _ _ _ _ _ => 0)
    case atStart => exact ⟨rfl, rfl⟩
    case round =>
      obtain ⟨rfl, rfl⟩ := hrel
      go_wp2
      go_end0
      exact ⟨⟨_, rfl⟩, rfl⟩
theorem sortStableZ_any (g c n lo : Nat) (fn : Nat) (lb : Array Value) (key : ZE → Int) (Z : List ZE) (w : World) (ho : w.ownsRow lo 27 1 (.slice (some ⟨g, 0, none⟩) n c) n (Z.map Prod.fst)) (hZ : Z.length = n)
    (hn : 1 ≤ n) (hn20 : n < 20) (hform : ∀ p ∈ Z, ∃ A m d, p.1 = .slice A m d) (hkey : ∀ p ∈ Z, -100000 ≤ key p ∧ key p ≤ 100000)
    (hen : ∀ (args : Array Value) (w : World), (callFunc fn args).run Tryz.prog w = .ok (.enter fn args) w)
    (hg : ∀ p ∈ Z, ∀ q ∈ Z, ∀ W, Only g (g + 1) w W → Calls Tryz.prog fn (#[p.1, q.1] ++ lb) W fun e W' => e = .returned (.int .i64 (key q - key p)) ∧ Below W.heap.size W W') :
    Calls Tryz.prog 173 #[.slice (some ⟨g, 0, none⟩) n c, .func (.func fn) #[] lb] w fun e w' =>
      (∃ v, e = .returned v) ∧ w'.ownsRow lo 27 1 (.slice (some ⟨g, 0, none⟩) n c) n ((sortK key Z n).map Prod.fst) ∧ Only g (g + 1) w w' := by
  have HI := Lib.hid (stableZ_any g c n lo fn lb key Z w ho hZ hn hn20 hform hkey hen hg)
  clear hg hform hkey ho hZ hen
  go_enter Tryz.func173, Tryz.ntmps173
  go_wp2_with fail
  (with_reducible refine HI.out.mono ?_)
  rintro e w2 ⟨⟨v, rfl⟩, ho2, hon⟩
  go_wp2
  go_end0
  exact ⟨⟨_, rfl⟩, ho2, hon⟩
theorem sortStableZ_nil (A : Option Addr) (c : Nat) (fn : Nat) (lb : Array Value) (w : World) :
    Calls Tryz.prog 173 #[.slice A 0 c, .func (.func fn) #[] lb] w fun e w' => (∃ v, e = .returned v) ∧ w' = w := by
  have HI := Lib.hid (stableZ_nil A c fn lb w)
  go_enter Tryz.func173, Tryz.ntmps173
  go_wp2_with fail
  (with_reducible refine HI.out.mono ?_)
  rintro e w2 ⟨⟨v, rfl⟩, rfl⟩
  go_wp2
  go_end0
  exact ⟨⟨_, rfl⟩, rfl⟩
end Go.Proofs.YtaanppihgldeaaaGreatDoor
