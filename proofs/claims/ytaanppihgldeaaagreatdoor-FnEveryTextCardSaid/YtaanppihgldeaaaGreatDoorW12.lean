/- Paths: PathStrengths, SchulzeWinners, the program's side. Schulze's winners, the program's side. All rankings: plain Lean, no program is walked here. slices.Grow of nil and slices.Concat. -/
import Derived.Test.YtaanppihgldeaaaGreatDoorW07
import Derived.Test.YtaanppihgldeaaaGreatDoorW02
import Derived.Test.YtaanppihgldeaaaGreatDoorW05
import Derived.Test.YtaanppihgldeaaaGreatDoorW03
namespace Go.Proofs.YtaanppihgldeaaaGreatDoor
set_option linter.unusedSimpArgs false
set_option linter.unusedVariables false
set_option linter.unusedVariables false
open Go.RowKit

/-- the list of f's first M values -/
def gfn {α : Type} (f : Nat → α) (M : Nat) : List α := (List.range M).map f
theorem gfn_len {α : Type} (f : Nat → α) (M : Nat) : (gfn f M).length = M := by simp [gfn]
theorem gfn_ext {α : Type} {f g : Nat → α} {M : Nat} (h : ∀ i, i < M → f i = g i) : gfn f M = gfn g M := List.map_congr_left fun i hi => h i (List.mem_range.1 hi)
theorem gfn_set {α : Type} {f : Nat → α} {M k : Nat} (v : α) : (gfn f M).set k v = gfn (fun i => if i = k then v else f i) M := by
  apply List.ext_getElem
  · simp [gfn_len]
  · intro i h1 h2
    simp only [List.getElem_set, gfn, List.getElem_map, List.getElem_range]
    by_cases e : k = i
    · subst e; simp
    · rw [if_neg e, if_neg (Ne.symm e)]
theorem gfn_rx {f : Nat → List Int} {M i : Nat} (h : i < M) : rx (gfn f M) i = f i := by rw [rx_lt (by rw [gfn_len]; exact h)]; simp [gfn]
/-- the first k values are full's, value k is cur, the rest init -/
def gpart {α : Type} (full : Nat → α) (k : Nat) (cur init : α) (i : Nat) : α := if i < k then full i else if i = k then cur else init
theorem gpart_set {α : Type} {full : Nat → α} {M k : Nat} {cur init : α} (v : α) : (gfn (gpart full k cur init) M).set k v = gfn (gpart full k v init) M := by
  rw [gfn_set]
  refine gfn_ext fun i _ => ?_
  unfold gpart
  by_cases e : i = k
  · subst e; rw [if_pos rfl, if_neg (by omega), if_pos rfl]
  · rw [if_neg e, if_neg e, if_neg e]
theorem gpart_next {α : Type} {full : Nat → α} {M k : Nat} {cur init : α} (h : cur = full k) : gfn (gpart full k cur init) M = gfn (gpart full (k + 1) init init) M := by
  refine gfn_ext fun i _ => ?_
  unfold gpart
  by_cases e : i = k
  · subst e; rw [if_neg (by omega), if_pos rfl, if_pos (by omega), h]
  · by_cases e2 : i < k
    · rw [if_pos e2, if_pos (by omega)]
    · rw [if_neg e2, if_neg e, if_neg (by omega)]; split <;> rfl
theorem gpart_end {α : Type} {full : Nat → α} {M : Nat} {cur init : α} : gfn (gpart full M cur init) M = gfn full M := gfn_ext fun i hi => by unfold gpart; rw [if_pos hi]
theorem gpart_start {α : Type} {full : Nat → α} {M : Nat} (init : α) : List.replicate M init = gfn (gpart full 0 init init) M := by
  apply List.ext_getElem
  · simp [gfn_len]
  · intro i h1 h2
    simp only [gfn, gpart, List.getElem_map, List.getElem_range, List.getElem_replicate, Nat.not_lt_zero, if_false]
    split <;> rfl
theorem gpart_rx {full : Nat → List Int} {M k : Nat} {cur init : List Int} (hk : k < M) : rx (gfn (gpart full k cur init) M) k = cur := by
  rw [gfn_rx hk]; unfold gpart; rw [if_neg (by omega), if_pos rfl]
/-- a matrix -/
def mat (f : Nat → Nat → Int) (M : Nat) : List (List Int) := gfn (fun a => lfn (f a) M) M
theorem mat_len (f : Nat → Nat → Int) (M : Nat) : (mat f M).length = M := gfn_len _ _
theorem mat_rx {f : Nat → Nat → Int} {M a : Nat} (h : a < M) : rx (mat f M) a = lfn (f a) M := gfn_rx h
theorem mat_ix {f : Nat → Nat → Int} {M a b : Nat} (h : a < M) (hb : b < M) : ix (rx (mat f M) a) b = f a b := by rw [mat_rx h, lfn_ix hb]
def upd2 (f : Nat → Nat → Int) (a b : Nat) (v : Int) (i j : Nat) : Int := if i = a then (if j = b then v else f i j) else f i j
theorem mat_set {f : Nat → Nat → Int} {M a b : Nat} (v : Int) (h : a < M) (hb : b < M) : (mat f M).set a ((rx (mat f M) a).set b v) = mat (upd2 f a b v) M := by
  rw [mat_rx h, lfn_set v hb, mat, gfn_set]
  refine gfn_ext fun i hi => ?_
  by_cases e : i = a
  · subst e
    rw [if_pos rfl]
    refine lfn_ext fun j _ => ?_
    unfold upd2; rw [if_pos rfl]
  · rw [if_neg e]
    refine lfn_ext fun j _ => ?_
    unfold upd2; rw [if_neg e]
/-- row j of rows of the call's own, where it has numbers: what lies there, and what a store does -/
theorem OwnR.spot {w : World} {lo hi g n c : Nat} {xss : List (List Int)} (h : OwnR w lo hi (.slice (some ⟨g, 0, none⟩) n c) xss) (j : Nat) (hj : j < n) (h0 : 0 < (rx xss j).length) :
    ∃ ga c', w.cell? ⟨g, j, none⟩ = some (.slice (some ⟨ga, 0, none⟩) (rx xss j).length c') ∧ lo ≤ ga ∧ ga < hi ∧ ga < w.heap.size ∧ ∀ b, b < (rx xss j).length → w.cell? ⟨ga, b, none⟩ = some (.int .i64 (ix (rx xss j) b)) ∧ w.frozen? ⟨ga, b, none⟩ = false ∧
      ∀ v, OwnR (w.setCell ⟨ga, b, none⟩ (.int .i64 v)) lo hi (.slice (some ⟨g, 0, none⟩) n c) (xss.set j ((rx xss j).set b v)) ∧ Only ga (ga + 1) w (w.setCell ⟨ga, b, none⟩ (.int .i64 v)) := by
  obtain ⟨hf, A', c', hc, ho⟩ := h.row j hj
  obtain ⟨ga, rfl, g1, g2⟩ := ho.head h0
  have ht := ho.tight
  have hsz : ga < w.heap.size := cell_lt (ht.cellAt 0 h0)
  refine ⟨ga, c', hc, g1, g2, hsz, fun b hb => ⟨ht.cellAt b hb, ht.frozenAt b, fun v => ?_⟩⟩
  obtain ⟨o1, o2⟩ := ht.stored b v
  exact ⟨h.inner j hj hc o2 o1, o2⟩

/-- a row made since is stored as row j -/
theorem OwnR.store_new {w w' : World} {lo g n c : Nat} {u : Value} {xs : List Int} {xss : List (List Int)} (h : OwnR w lo w.heap.size (.slice (some ⟨g, 0, none⟩) n c) xss) (hb : Below w.heap.size w w') (j : Nat) (hj : j < n) (hl : lo ≤ w.heap.size) (hu : OwnI w' w.heap.size w'.heap.size u xs) :
    OwnR (w'.setCell ⟨g, j, none⟩ u) lo w'.heap.size (.slice (some ⟨g, 0, none⟩) n c) (xss.set j xs) ∧ Only g (g + 1) w' (w'.setCell ⟨g, j, none⟩ u) := by
  refine ((h.belowW hb).mono (Nat.le_refl _) hb.size).stored j hj (hu.mono hl (Nat.le_refl _)) fun i A' c' _ hi hc => ?_
  obtain ⟨_, A2, c2, hc2, ho⟩ := h.row i hi
  have e := (cell_carry hb hc2).symm.trans hc
  injection e with e
  rw [← e]
  cases hub : u.ownBlock with
  | none => exact .inl rfl
  | some b =>
    right
    intro e2
    have h1 := ho.2 b e2
    have h2 := (hu.block_ge b hub).1
    omega

def strI (vs : List Vt) (a b : Nat) : Int := if beatsP vs (a : Int) (b : Int) then pairP vs (a : Int) (b : Int) else 0
def fwStep (f : Nat → Nat → Int) (o a b : Nat) : Nat → Nat → Int := if a = b then f else upd2 f a b (max (f a b) (min (f a o) (f o b)))
def fwB (f : Nat → Nat → Int) (o a : Nat) : Nat → Nat → Nat → Int
  | 0 => f
  | b + 1 => fwStep (fwB f o a b) o a b
def fwA (f : Nat → Nat → Int) (M o : Nat) : Nat → Nat → Nat → Int
  | 0 => f
  | a + 1 => fwB (fwA f M o a) o a M
def fwO (f : Nat → Nat → Int) (M : Nat) : Nat → Nat → Nat → Int
  | 0 => f
  | o + 1 => fwA (fwO f M o) M o M
def strength (vs : List Vt) (M : Nat) : Nat → Nat → Int := fwO (strI vs) M M
def strengthR (m : Int) (vs : List Vt) : List (List Int) := if profOk m vs then mat (strength vs m.toNat) m.toNat else []
set_option maxRecDepth 100000 in
set_option maxHeartbeats 2000000 in
theorem implPathStrengths (m : Int) (A : Option Addr) (n c : Nat) (vs : List Vt) (w : World) (h : VotesAt w A n vs) (hn : n ≤ 1048576) (hx : ∀ v ∈ vs, v.r.length ≤ 1048576) :
    Calls Tryz.prog 115 #[.agg #[.int .i64 m, .slice A n c]] w fun e w' => ∃ A' c', e = .returned (.slice A' (strengthR m vs).length c') ∧ OwnR w' w.heap.size w'.heap.size (.slice A' (strengthR m vs).length c') (strengthR m vs) ∧ Below w.heap.size w w' := by
  obtain rfl := h.len
  have hB := alloc_below w (.cells #[.int .i64 m, .slice A vs.length c] 24)
  obtain ⟨x0, x1⟩ := PBox.new w m A vs.length c 24 rfl
  replace h := h.below hB
  generalize hw0 : w.alloc (.cells #[.int .i64 m, .slice A vs.length c] 24) = w0 at *
  have K := Lib.hid (implProfileOk m A vs.length c vs _ h hn hx)
  unfold strengthR
  clear hx
  cases hp : profOk m vs
  · rw [hp] at K
    simp only [Bool.false_eq_true, if_false, List.length_nil]
    go_enter Tryz.func115, Tryz.ntmps115
    go_wp2_with fail
    (with_reducible refine (K.out).mono ?_)
    rintro e w1 ⟨rfl, b1⟩
    replace hB := hB.trans (b1.mono hB.size)
    clear b1
    go_wp2
    go_ret
    exact ⟨_, _, rfl, OwnR.nil _ _ _, hB⟩
  rw [hp] at K
  simp only [if_true]
  have F := Lib.hid (pf_of hp)
  obtain ⟨M, rfl⟩ : ∃ M : Nat, m = (M : Int) := ⟨m.toNat, by have := F.out.m1; omega⟩
  have M5 : M ≤ 5 := by have := F.out.m5; omega
  have M1 : 1 ≤ M := by have := F.out.m1; omega
  rw [Int.toNat_natCast, mat_len]
  clear hp
  go_enter Tryz.func115, Tryz.ntmps115
  go_wp2_with fail
  (with_reducible refine (K.out).mono ?_)
  rintro e w1 ⟨rfl, b1⟩
  replace x0 := cell_carry b1 x0
  replace x1 := cell_carry b1 x1
  replace h := h.below b1
  replace hB := hB.trans (b1.mono hB.size)
  clear b1
  clear K
  go_wp2_with (first | (at_make; refine wpList_make_rows _ rfl _ _ rfl M rfl rfl (by omega) ?_) | fail)
  intro w2 ho hb hz
  have z0 := hB.size
  rw [gpart_start (full := fun a => lfn (strI vs a) M)] at ho
  have ho2 := ho.mono (Nat.le_refl _) (show w1.heap.size + 1 ≤ w2.heap.size by omega)
  have gs : w1.heap.size < w2.heap.size := by omega
  clear ho hz hw0
  go_wp2
  go_loopw [4, 17] (fun _ i wr => ∃ k : Nat, k ≤ M ∧ i = .int .i64 k ∧ OwnR wr w1.heap.size wr.heap.size (.slice (some ⟨w1.heap.size, 0, none⟩) M M) (gfn (gpart (fun a => lfn (strI vs a) M) k [] []) M) ∧ Below w1.heap.size w1 wr ∧ w1.heap.size < wr.heap.size) (fun _ i _ => M - (intOf i).toNat)
  case atStart => exact ⟨0, Nat.zero_le _, rfl, ho2, hb, gs⟩
  case round =>
    clear ho2 hb gs
    obtain ⟨wo, rfl⟩ : ∃ wo, wo = wr := ⟨_, rfl⟩
    obtain ⟨k, hk, rfl, hok, hbr, zr⟩ := hrel
    by_cases hlt : k < M
    · have x0' := cell_carry hbr x0
      have kk : (k : Int) < (M : Int) := by omega
      go_wp2_with (first | (at_make; refine wpList_make_ints _ rfl _ _ rfl M rfl rfl (by omega) ?_) | fail)
      intro w4 hr4 hb4 hz4
      rw [part_start (full := strI vs k)] at hr4
      have hu := hr4.mono (Nat.le_refl _) (show wo.heap.size + 1 ≤ w4.heap.size by omega)
      obtain ⟨hok4, on4⟩ := hok.store_new hb4 k hlt (by omega) hu
      obtain ⟨f0, A0, c0, r0, _⟩ := (hok.belowW hb4).row k hlt
      rw [gpart_set] at hok4
      have hb5 := (hbr.trans (hb4.mono hbr.size)).trans (on4.toBelow (Nat.le_refl _) (by omega))
      have hz5 : (w4.setCell ⟨w1.heap.size, k, none⟩ (.slice (some ⟨wo.heap.size, 0, none⟩) M M)).heap.size = w4.heap.size := World.size_setCell _ _ _
      have zr5 : w1.heap.size < (w4.setCell ⟨w1.heap.size, k, none⟩ (.slice (some ⟨wo.heap.size, 0, none⟩) M M)).heap.size := by omega
      rw [← hz5] at hok4
      have x05 := cell_carry hb5 x0
      replace x0' := cell_carry hb4 x0'
      clear hr4 hu hok hbr on4 hb4 hz4 zr
      go_wp2
      generalize w4.setCell ⟨w1.heap.size, k, none⟩ (.slice (some ⟨wo.heap.size, 0, none⟩) M M) = w5 at *
      clear f0 r0 x0'
      go_loopw [5, 28] (fun _ i wr => ∃ j : Nat, j ≤ M ∧ i = .int .i64 j ∧ OwnR wr w1.heap.size wr.heap.size (.slice (some ⟨w1.heap.size, 0, none⟩) M M) (gfn (gpart (fun a => lfn (strI vs a) M) k (lfn (part (strI vs k) j 0 0) M) []) M) ∧ Below w1.heap.size w1 wr ∧ w1.heap.size < wr.heap.size) (fun _ i _ => M - (intOf i).toNat)
      case atStart => exact ⟨0, Nat.zero_le _, rfl, hok4, hb5, zr5⟩
      case round =>
        clear hok4 hb5 zr5 x05 hz5
        obtain ⟨j, hj, rfl, hoj, hbj, zj⟩ := hrel
        by_cases hlj : j < M
        · have hv := h.below hbj
          have HS : Hid (strI vs k j = if beatsP vs (k : Int) (j : Int) then pairP vs (k : Int) (j : Int) else 0) := rfl
          have KB := Lib.hid (implBeats (M : Int) A vs.length c vs (k : Int) (j : Int) wr hv F.out)
          have KP := Lib.hid (fun W hW => implPair (M : Int) A vs.length c vs (k : Int) (j : Int) W hW F.out)
          generalize beatsP vs (k : Int) (j : Int) = q at *
          cases q
          · rw [if_neg (by simp)] at HS
            have x0' := cell_carry hbj x0
            have x1' := cell_carry hbj x1
            clear hv
            go_wp2_with fail
            (with_reducible refine KB.out.mono ?_)
            rintro e w6 ⟨rfl, b6⟩
            have z6 := b6.size
            have hoj2 := (hoj.belowW b6).mono (Nat.le_refl _) z6
            have hbj2 := hbj.trans (b6.mono hbj.size)
            rw [part_next (M := M) HS.out.symm] at hoj2
            clear hoj b6
            go_wp2
            go_roundw
            case rel => exact ⟨j + 1, by omega, by go_num, hoj2, hbj2, by omega⟩
            case measure => simp [intOf]; omega
          · rw [if_pos rfl] at HS
            have x0' := cell_carry hbj x0
            have x1' := cell_carry hbj x1
            go_wp2_with fail
            (with_reducible refine KB.out.mono ?_)
            rintro e w6 ⟨rfl, b6⟩
            have z6 := b6.size
            have hoj2 := (hoj.belowW b6).mono (Nat.le_refl _) z6
            have hbj2 := hbj.trans (b6.mono hbj.size)
            have hv2 := hv.below b6
            clear hoj hbj hv KB x0' x1'
            have x0' := cell_carry hbj2 x0
            have x1' := cell_carry hbj2 x1
            have x0w := x0
            have x1w := x1
            obtain ⟨ga, ca, s1, s2, s3, s4, sp⟩ := hoj2.spot k hlt (by rw [gpart_rx hlt, lfn_len]; omega)
            rw [gpart_rx hlt, lfn_len] at s1
            have K1 : Hid (∀ L : Later w6, Calls Tryz.prog 105 #[.agg #[.int .i64 (M : Int), .slice A vs.length c], .int .i64 (k : Int), .int .i64 (j : Int)] L.W fun e W' => e = .returned (.int .i64 (pairP vs (k : Int) (j : Int))) ∧ ∃ L' : Later w6, W' = L'.W) :=
              fun L => L.call (KP.out L.W (hv2.below L.h))
            have q0 : ∀ L : Later w6, L.W.cell? ⟨w.heap.size, 0, none⟩ = some (.int .i64 (M : Int)) := fun L => L.cell x0'
            have q1 : ∀ L : Later w6, L.W.cell? ⟨w.heap.size, 1, none⟩ = some (.slice A vs.length c) := fun L => L.cell x1'
            have q2 : ∀ L : Later w6, L.W.cell? ⟨w1.heap.size, k, none⟩ = some (.slice (some ⟨ga, 0, none⟩) M ca) := fun L => L.cell s1
            have i1 : (j : Int) < (M : Int) := by omega
            obtain ⟨y, hy⟩ : ∃ y, pairP vs (k : Int) (j : Int) = y := ⟨_, rfl⟩
            rw [hy] at K1 HS
            clear sp hy KP x0' x1' hv2 x0 x1
            go_upto_region 12 with fail
            refine wp_region_later_tail 10 (by kernel_rfl) (by kernel_rfl) ?_
            simp only [List.take_succ_cons, List.take_zero, List.drop_succ_cons, List.drop_zero]
            repeat (go_big_quiet_step (first | (with_reducible exact K1.out _)))
            (refine wpQuiet_nil ?_; rintro wl ⟨L_, hwl_⟩; have hbl := L_.h; rw [← hwl_] at hbl; clear hwl_ L_)
            have z7 := hbl.size
            have hol := (hoj2.belowW hbl).mono (Nat.le_refl _) z7
            obtain ⟨gb, cb, t1, t2, t3, t4, tp⟩ := hol.spot k hlt (by rw [gpart_rx hlt, lfn_len]; omega)
            rw [gpart_rx hlt, lfn_len] at t1 tp
            have e1 := (cell_carry hbl s1).symm.trans t1
            simp only [Option.some.injEq, Value.slice.injEq, Addr.mk.injEq, and_true, true_and] at e1
            obtain ⟨rfl, rfl⟩ := e1
            obtain ⟨u1, u2, u3⟩ := tp j hlj
            obtain ⟨ho8, on8⟩ := u3 y
            rw [part_set _ hlj, part_next (M := M) HS.out.symm, gpart_set] at ho8
            have hbw := hbj2.trans (hbl.mono hbj2.size)
            have zz : (wl.setCell ⟨ga, j, none⟩ (.int .i64 y)).heap.size = wl.heap.size := World.size_setCell _ _ _
            rw [← zz] at ho8
            have x0 := x0w
            have x1 := x1w
            have hb8 := hbw.trans (on8.toBelow s2 hbw.size)
            clear x0w x1w K1 q0 q1 q2 hoj2 hol tp u3 on8 hbl t1 s1
            go_wp2
            go_roundw
            case rel => exact ⟨j + 1, by omega, by go_num, ho8, hb8, by rw [zz]; omega⟩
            case measure => simp [intOf]; omega
        · obtain rfl : j = M := by omega
          have e1 : lfn (part (strI vs k) j 0 0) j = lfn (strI vs k) j := part_end
          rw [e1, gpart_next (full := fun a => lfn (strI vs a) j) (k := k) (cur := lfn (strI vs k) j) rfl] at hoj
          clear e1
          go_wp2
          go_roundw
          case rel => exact ⟨k + 1, by omega, by go_num, hoj, hbj, zj⟩
          case measure => simp [intOf]; omega
    · obtain rfl : k = M := by omega
      rw [gpart_end] at hok
      have hok2 : OwnR wo w1.heap.size wo.heap.size (.slice (some ⟨w1.heap.size, 0, none⟩) k k) (mat (fwO (strI vs) k 0) k) := hok
      have x0' := cell_carry hbr x0
      clear hok
      clear F h x1 hk hlt
      go_wp2
      go_loopw [6, 49] (fun _ i wr => ∃ o : Nat, o ≤ k ∧ i = .int .i64 o ∧ OwnR wr w1.heap.size wr.heap.size (.slice (some ⟨w1.heap.size, 0, none⟩) k k) (mat (fwO (strI vs) k o) k) ∧ Below w1.heap.size w1 wr ∧ w1.heap.size < wr.heap.size) (fun _ i _ => k - (intOf i).toNat)
      case atStart => exact ⟨0, Nat.zero_le _, rfl, hok2, hbr, zr⟩
      case round =>
        clear hok2 hbr zr x0'
        obtain ⟨w3, rfl⟩ : ∃ w3, w3 = wr := ⟨_, rfl⟩
        obtain ⟨o, ho, rfl, hoo, hbo, zo⟩ := hrel
        by_cases hlo : o < k
        · have hoo2 : OwnR w3 w1.heap.size w3.heap.size (.slice (some ⟨w1.heap.size, 0, none⟩) k k) (mat (fwA (fwO (strI vs) k o) k o 0) k) := hoo
          have x0' := cell_carry hbo x0
          clear hoo
          go_wp2
          go_loopw [7, 54] (fun _ i wr => ∃ a : Nat, a ≤ k ∧ i = .int .i64 a ∧ OwnR wr w1.heap.size wr.heap.size (.slice (some ⟨w1.heap.size, 0, none⟩) k k) (mat (fwA (fwO (strI vs) k o) k o a) k) ∧ Below w1.heap.size w1 wr ∧ w1.heap.size < wr.heap.size) (fun _ i _ => k - (intOf i).toNat)
          case atStart => exact ⟨0, Nat.zero_le _, rfl, hoo2, hbo, zo⟩
          case round =>
            clear hoo2 hbo zo x0'
            obtain ⟨w4, rfl⟩ : ∃ w4, w4 = wr := ⟨_, rfl⟩
            obtain ⟨a, ha, rfl, hoa, hba, za⟩ := hrel
            by_cases hla : a < k
            · have hoa2 : OwnR w4 w1.heap.size w4.heap.size (.slice (some ⟨w1.heap.size, 0, none⟩) k k) (mat (fwB (fwA (fwO (strI vs) k o) k o a) o a 0) k) := hoa
              have x0' := cell_carry hba x0
              clear hoa
              obtain ⟨f0, hf0⟩ : ∃ f, fwA (fwO (strI vs) k o) k o a = f := ⟨_, rfl⟩
              have HA : Hid (fwA (fwO (strI vs) k o) k o (a + 1) = fwB f0 o a k) := by rw [← hf0]; rfl
              rw [hf0] at hoa2
              clear hf0
              go_wp2
              go_loopw [8, 59] (fun _ i wr => ∃ b : Nat, b ≤ k ∧ i = .int .i64 b ∧ OwnR wr w1.heap.size wr.heap.size (.slice (some ⟨w1.heap.size, 0, none⟩) k k) (mat (fwB f0 o a b) k) ∧ Below w1.heap.size w1 wr ∧ w1.heap.size < wr.heap.size) (fun _ i _ => k - (intOf i).toNat)
              case atStart => exact ⟨0, Nat.zero_le _, rfl, hoa2, hba, za⟩
              case round =>
                clear hoa2 hba za x0'
                obtain ⟨b, hb, rfl, hob, hbb, zb⟩ := hrel
                by_cases hlb : b < k
                · have HS : Hid (fwB f0 o a (b + 1) = fwStep (fwB f0 o a b) o a b) := rfl
                  generalize fwB f0 o a b = f at *
                  by_cases hab : a = b
                  · have e1 : ((a : Int) != (b : Int)) = false := by rw [bne_eq_false_iff_eq]; omega
                    have HS2 : Hid (fwB f0 o a (b + 1) = f) := by have := HS.out; unfold fwStep at this; rw [if_pos hab] at this; exact this
                    clear hab
                    go_wp2
                    go_roundw
                    case rel => exact ⟨b + 1, by omega, by go_num, by rw [HS2.out]; exact hob, hbb, zb⟩
                    case measure => simp [intOf]; omega
                  · have e1 : ((a : Int) != (b : Int)) = true := by rw [bne_iff_ne]; omega
                    have HS2 : Hid (fwB f0 o a (b + 1) = upd2 f a b (max (f a b) (min (f a o) (f o b)))) := by have := HS.out; unfold fwStep at this; rw [if_neg hab] at this; exact this
                    clear hab HS
                    obtain ⟨ga, ca, s1, s2, s3, s4, sp⟩ := hob.spot a hla (by rw [mat_rx hla, lfn_len]; omega)
                    obtain ⟨go, co, t1, t2, t3, t4, tp⟩ := hob.spot o hlo (by rw [mat_rx hlo, lfn_len]; omega)
                    have el : (rx (mat f k) a).length = k := by rw [mat_rx hla, lfn_len]
                    have el2 : (rx (mat f k) o).length = k := by rw [mat_rx hlo, lfn_len]
                    rw [el] at s1 sp
                    rw [el2] at t1 tp
                    obtain ⟨d1, d2, d3⟩ := sp b hlb
                    have d4 := (sp o hlo).1
                    have d5 := (tp b hlb).1
                    rw [mat_ix hla hlb] at d1
                    rw [mat_ix hla hlo] at d4
                    rw [mat_ix hlo hlb] at d5
                    have D6 : Hid (∀ v, v = max (f a b) (min (f a o) (f o b)) → OwnR (wr.setCell ⟨ga, b, none⟩ (.int .i64 v)).drew w1.heap.size (wr.setCell ⟨ga, b, none⟩ (.int .i64 v)).drew.heap.size (.slice (some ⟨w1.heap.size, 0, none⟩) k k) (mat (fwB f0 o a (b + 1)) k) ∧
                        Below w1.heap.size w1 (wr.setCell ⟨ga, b, none⟩ (.int .i64 v)).drew ∧ w1.heap.size < (wr.setCell ⟨ga, b, none⟩ (.int .i64 v)).drew.heap.size) := fun v hv => by
                      obtain ⟨d6, d7⟩ := d3 v
                      rw [mat_set _ hla hlb, hv, ← HS2.out, ← hv] at d6
                      have e : (wr.setCell ⟨ga, b, none⟩ (.int .i64 v)).drew.heap.size = wr.heap.size := World.size_setCell _ _ _
                      rw [e]
                      exact ⟨d6, (hbb.trans (d7.toBelow s2 hbb.size)).drew, zb⟩
                    generalize f a b = X at *
                    generalize f a o = Y at *
                    generalize f o b = Z at *
                    have i1 : (a : Int) < (k : Int) := by omega
                    have i2 : (b : Int) < (k : Int) := by omega
                    have i3 : (o : Int) < (k : Int) := by omega
                    clear sp tp d3 el el2 HS2
                    go_upto_region 25 with fail
                    go_still_tail 29, (by kernel_rfl)
                    change wpList _ _ _ _ _ wr.drew
                    have d8 : wr.drew.frozen? _ = _ := d2
                    clear d2 d4 d5 s1 t1 e1
                    go_wp2
                    all_goals
                      go_roundw
                      case rel =>
                        refine ⟨b + 1, by omega, by go_num, ?_⟩
                        refine D6.out _ ?_
                        omega
                      case measure => simp [intOf]; omega
                · obtain rfl : b = k := by omega
                  rw [← HA.out] at hob
                  go_wp2
                  go_roundw
                  case rel => exact ⟨a + 1, by omega, by go_num, hob, hbb, zb⟩
                  case measure => simp [intOf]; omega
            · obtain rfl : a = k := by omega
              have hoa2 : OwnR w4 w1.heap.size w4.heap.size (.slice (some ⟨w1.heap.size, 0, none⟩) a a) (mat (fwO (strI vs) a (o + 1)) a) := hoa
              clear hoa
              go_wp2
              go_roundw
              case rel => exact ⟨o + 1, by omega, by go_num, hoa2, hba, za⟩
              case measure => simp [intOf]; omega
        · obtain rfl : o = k := by omega
          have hB5 := hB.trans (hbo.mono hB.size)
          have z5 := hB.size
          go_wp2
          go_ret
          exact ⟨_, _, rfl, hoo.mono z5 (Nat.le_refl _), hB5⟩
end Go.Proofs.YtaanppihgldeaaaGreatDoor
namespace Go.Proofs.YtaanppihgldeaaaGreatDoor
set_option linter.unusedSimpArgs false
set_option linter.unusedVariables false
set_option linter.unusedVariables false
open Go.RowKit

def schulF (s : Nat → Nat → Int) (x y : Int) : Bool := decide (s y.toNat x.toNat ≤ s x.toNat y.toNat)
def schulzeR (m : Int) (vs : List Vt) : List Int := thoseR m vs (schulF (strength vs m.toNat))
theorem schulze1 (A : Option Addr) (M c g a b : Nat) (s : Nat → Nat → Int) (W : World) (h : RowsAt W A M (mat s M)) (y0 : W.cell? ⟨g, 0, none⟩ = some (.slice A M c)) (ha : a < M) (hb : b < M) :
    Calls Tryz.prog 116 #[.int .i64 (a : Int), .int .i64 (b : Int), .pointer (some ⟨g, 0, none⟩)] W fun e W' => e = .returned (.bool (schulF s (a : Int) (b : Int))) ∧ Below W.heap.size W W' := by
  obtain ⟨ba, oa, A1, c1, rfl, _, hc1, _, hin1⟩ := h.at_ ha
  obtain ⟨bb, ob, A2, c2, e, _, hc2, _, hin2⟩ := h.at_ hb
  cases e
  rw [mat_rx ha] at hin1
  rw [mat_rx hb] at hin2
  rw [mat_rx ha, lfn_len] at hc1
  rw [mat_rx hb, lfn_len] at hc2
  rw [lfn_len] at hin1 hin2
  obtain ⟨b1, o1, rfl, _, d1⟩ := hin1.at_ hb
  obtain ⟨b2, o2, rfl, _, d2⟩ := hin2.at_ ha
  have e1 := d1 b hb
  have e2 := d2 a ha
  rw [lfn_ix hb] at e1
  rw [lfn_ix ha] at e2
  have hf : schulF s (a : Int) (b : Int) = decide (s b a ≤ s a b) := by unfold schulF; simp
  rw [hf]
  have i1 : (a : Int) < (M : Int) := by omega
  have i2 : (b : Int) < (M : Int) := by omega
  clear d1 d2 hin1 hin2 h hf
  generalize s a b = X at *
  generalize s b a = Y at *
  go_enter Tryz.func116, Tryz.ntmps116
  go_wp2
  go_quiet (fail)
  go_wp2
  go_ret
  exact ⟨rfl, below_of_drewN rfl⟩
set_option maxHeartbeats 400000 in
theorem implSchulze (m : Int) (A : Option Addr) (n c : Nat) (vs : List Vt) (w : World) (h : VotesAt w A n vs) (hn : n ≤ 1048576) (hx : ∀ v ∈ vs, v.r.length ≤ 1048576) :
    Calls Tryz.prog 68 #[.agg #[.int .i64 m, .slice A n c]] w fun e w' => ∃ A' c', e = .returned (.slice A' (schulzeR m vs).length c') ∧ OwnI w' w.heap.size w'.heap.size (.slice A' (schulzeR m vs).length c') (schulzeR m vs) ∧ Below w.heap.size w w' := by
  obtain rfl := h.len
  have hB := alloc_below w (.cells #[.int .i64 m, .slice A vs.length c] 24)
  obtain ⟨x0, x1⟩ := PBox.new w m A vs.length c 24 rfl
  replace h := h.below hB
  generalize hw0 : w.alloc (.cells #[.int .i64 m, .slice A vs.length c] 24) = w0 at *
  have K := Lib.hid (implPathStrengths m A vs.length c vs _ h hn hx)
  have KT := Lib.hid (fun (g : Nat) W hW hg => implThose 116 (#[.pointer (some ⟨g, 0, none⟩)]) (schulF (strength vs m.toNat)) m A vs.length c vs W hW hn hx (enters Tryz.func116 (by kernel_rfl) rfl) hg)
  clear hx
  have HT : thoseR m vs (schulF (strength vs m.toNat)) = schulzeR m vs := rfl
  rw [HT] at KT
  generalize schulzeR m vs = T at *
  clear HT
  go_enter Tryz.func68, Tryz.ntmps68
  go_wp2_with fail
  (with_reducible refine K.out.mono ?_)
  rintro e w1 ⟨A1, c1, rfl, o1, b1⟩
  have b2 := b1.trans ((alloc_below w1 (.cells #[.slice A1 (strengthR m vs).length c1] 98)).mono b1.size)
  have y0 := new_cell w1 (.slice A1 (strengthR m vs).length c1) 98 rfl
  have o2 := (o1.alloc (.cells #[.slice A1 (strengthR m vs).length c1] 98)).at_
  replace h := h.below b2
  replace x0 := cell_carry b2 x0
  replace x1 := cell_carry b2 x1
  replace hB := hB.trans (b2.mono hB.size)
  clear b1 b2 o1 K hw0
  generalize hw2 : w1.alloc (.cells #[.slice A1 (strengthR m vs).length c1] 98) = w2 at *
  have KK := Lib.hid (KT.out w1.heap.size _ h (fun hp a b W ha hb hne hW => by
    have e : strengthR m vs = mat (strength vs m.toNat) m.toNat := by unfold strengthR; rw [hp, if_pos rfl]
    rw [e] at o2 y0
    rw [mat_len] at o2 y0
    exact schulze1 A1 m.toNat c1 w1.heap.size a b _ W (o2.below hW) (cell_carry hW y0) (by omega) (by omega)))
  clear KT
  go_wp2_with fail
  (with_reducible refine KK.out.mono ?_)
  rintro e w3 ⟨A3, c3, rfl, o3, b3⟩
  go_wp2
  go_ret
  exact ⟨_, _, rfl, o3.mono hB.size (Nat.le_refl _), hB.trans (b3.mono hB.size)⟩
end Go.Proofs.YtaanppihgldeaaaGreatDoor
namespace Go.Proofs.YtaanppihgldeaaaGreatDoor
set_option linter.unusedSimpArgs false
set_option linter.unusedVariables false
set_option linter.unusedVariables false
open Go.RowKit

/-- of all k below the number, one after the other, the lists g k of those k of which p holds -/
def flatP (p : Nat → Bool) (g : Nat → List (List Int)) : Nat → List (List Int)
  | 0 => []
  | k + 1 => if p k then flatP p g k ++ g k else flatP p g k
theorem flatP_yes {p : Nat → Bool} {g : Nat → List (List Int)} {k : Nat} (h : p k = true) : flatP p g (k + 1) = flatP p g k ++ g k := by rw [flatP, if_pos h]
theorem flatP_no {p : Nat → Bool} {g : Nat → List (List Int)} {k : Nat} (h : p k = false) : flatP p g (k + 1) = flatP p g k := by rw [flatP, h, if_neg (by simp)]
theorem flatP_len {p : Nat → Bool} {g : Nat → List (List Int)} {b : Nat} (h : ∀ j, (g j).length ≤ b) (k : Nat) : (flatP p g k).length ≤ k * b := by
  induction k with
  | zero => simp [flatP]
  | succ k ih =>
    have := h k
    rw [Nat.succ_mul]
    cases hp : p k
    · rw [flatP_no hp]; omega
    · rw [flatP_yes hp, List.length_append]; omega
theorem flatP_mem {p : Nat → Bool} {g : Nat → List (List Int)} {k : Nat} {x : List Int} (h : x ∈ flatP p g k) : ∃ j, j < k ∧ p j = true ∧ x ∈ g j := by
  induction k with
  | zero => simp [flatP] at h
  | succ k ih =>
    cases hp : p k
    · rw [flatP_no hp] at h
      obtain ⟨j, hj, e⟩ := ih h
      exact ⟨j, by omega, e⟩
    · rw [flatP_yes hp, List.mem_append] at h
      rcases h with h | h
      · obtain ⟨j, hj, e⟩ := ih h; exact ⟨j, by omega, e⟩
      · exact ⟨k, by omega, hp, h⟩

/-- a list without its place i -/
def cutAt (zs : List Int) (i : Nat) : List Int := zs.take i ++ zs.drop (i + 1)
theorem cutAt_len {zs : List Int} {i : Nat} (h : i < zs.length) : (cutAt zs i).length + 1 = zs.length := by simp [cutAt]; omega
/-- all orders of a list; f bounds the rounds -/
def orders : Nat → List Int → List (List Int)
  | 0, _ => [[]]
  | f + 1, zs => if zs.length = 0 then [[]] else flatP (fun _ => true) (fun i => (orders f (cutAt zs i)).map (ix zs i :: ·)) zs.length
theorem orders_none {f : Nat} {zs : List Int} (h : zs.length = 0) : orders f zs = [[]] := by
  cases f with
  | zero => rfl
  | succ f => rw [orders, if_pos h]
theorem orders_some {f : Nat} {zs : List Int} (h : zs.length ≠ 0) : orders (f + 1) zs = flatP (fun _ => true) (fun i => (orders f (cutAt zs i)).map (ix zs i :: ·)) zs.length := by rw [orders, if_neg h]
theorem orders_len (f : Nat) : ∀ zs : List Int, zs.length ≤ 5 → (orders f zs).length ≤ 5 ^ f := by
  induction f with
  | zero => intro zs _; simp [orders]
  | succ f ih =>
    intro zs h
    rw [orders]
    split
    · have : 0 < 5 ^ (f + 1) := Nat.pow_pos (by omega)
      simp only [List.length_singleton]; omega
    · have h1 : (flatP (fun _ => true) (fun i => (orders f (cutAt zs i)).map (ix zs i :: ·)) zs.length).length ≤ zs.length * 5 ^ f := flatP_len (fun j => by rw [List.length_map]; exact ih _ (by simp [cutAt]; omega)) zs.length
      refine Nat.le_trans h1 ?_
      rw [Nat.pow_succ, Nat.mul_comm]
      exact Nat.mul_le_mul_left _ h
theorem orders_row (f : Nat) : ∀ zs : List Int, zs.length ≤ 5 → ∀ x ∈ orders f zs, x.length ≤ f := by
  induction f with
  | zero => intro zs _ x hx; simp [orders] at hx; rw [hx]; simp
  | succ f ih =>
    intro zs h x hx
    rw [orders] at hx
    split at hx
    · simp at hx; rw [hx]; simp
    · obtain ⟨j, hj, _, hm⟩ := flatP_mem hx
      obtain ⟨y, hy, rfl⟩ := List.mem_map.1 hm
      have := ih _ (by have := cutAt_len hj; omega) y hy
      simpa using this
/-- as the reference has it: the rankings of m that begin with a list -/
def extend (m : Nat) : Nat → List Int → List (List Int)
  | 0, zs => [zs]
  | f + 1, zs => if zs.length = m then [zs] else flatP (fun x => decide (place zs (x : Int) < 0)) (fun x => extend m f (zs ++ [(x : Int)])) m
theorem extend_done {m f : Nat} {zs : List Int} (h : zs.length = m) : extend m f zs = [zs] := by
  cases f with
  | zero => rfl
  | succ f => rw [extend, if_pos h]
theorem extend_more {m f : Nat} {zs : List Int} (h : zs.length ≠ m) : extend m (f + 1) zs = flatP (fun x => decide (place zs (x : Int) < 0)) (fun x => extend m f (zs ++ [(x : Int)])) m := by rw [extend, if_neg h]
theorem extend_len (m : Nat) (hm : m ≤ 5) (f : Nat) : ∀ zs : List Int, (extend m f zs).length ≤ 5 ^ f := by
  induction f with
  | zero => intro zs; simp [extend]
  | succ f ih =>
    intro zs
    rw [extend]
    split
    · have : 0 < 5 ^ (f + 1) := Nat.pow_pos (by omega)
      simp only [List.length_singleton]; omega
    · have h1 : (flatP (fun x => decide (place zs (x : Int) < 0)) (fun x => extend m f (zs ++ [(x : Int)])) m).length ≤ m * 5 ^ f := flatP_len (fun j => ih _) m
      refine Nat.le_trans h1 ?_
      rw [Nat.pow_succ, Nat.mul_comm]
      exact Nat.mul_le_mul_left _ hm
def upTo (m : Nat) : List Int := (List.range m).map fun (j : Nat) => (j : Int)
theorem orders_extend {m : Nat} (h1 : 1 ≤ m) (h5 : m ≤ 5) : orders m (upTo m) = extend m m [] := by
  obtain rfl | rfl | rfl | rfl | rfl : m = 1 ∨ m = 2 ∨ m = 3 ∨ m = 4 ∨ m = 5 := by omega
  all_goals decide +kernel
def allRankings (m : Int) : List (List Int) := if decide (1 ≤ m) && decide (m ≤ 5) then orders m.toNat (upTo m.toNat) else []
theorem allRankings_no {m : Int} (h : m < 1 ∨ 5 < m) : allRankings m = [] := by
  unfold allRankings
  rw [if_neg]
  simp
  omega
theorem allRankings_yes {m : Nat} (h1 : 1 ≤ m) (h5 : m ≤ 5) : allRankings (m : Int) = orders m (upTo m) := by
  unfold allRankings
  rw [if_pos (by simp; omega), Int.toNat_natCast]
theorem allRankings_len {m : Int} : (allRankings m).length ≤ 3125 := by
  unfold allRankings
  split
  · rename_i h
    have h2 : 1 ≤ m ∧ m ≤ 5 := by simpa using h
    have h3 := orders_len m.toNat (upTo m.toNat) (by simp [upTo]; omega)
    have h4 : 5 ^ m.toNat ≤ 5 ^ 5 := Nat.pow_le_pow_right (by omega) (by omega)
    omega
  · simp
theorem allRankings_row {m : Int} : ∀ x ∈ allRankings m, x.length ≤ 5 := by
  intro x hx
  unfold allRankings at hx
  split at hx
  · rename_i h
    have h2 : 1 ≤ m ∧ m ≤ 5 := by simpa using h
    have := orders_row m.toNat (upTo m.toNat) (by simp [upTo]; omega) x hx
    omega
  · simp at hx
end Go.Proofs.YtaanppihgldeaaaGreatDoor
namespace Go.Proofs.YtaanppihgldeaaaGreatDoor
set_option linter.unusedSimpArgs false
set_option linter.unusedVariables false
set_option linter.unusedVariables false
open Go.RowKit

theorem run_append_made {P : Program} (w : World) (t u ty e : TypeId) (i : TypeInfo) (z : Value) (ht : P.underlying t = some (.slice e)) (hu : P.underlying u = some (.int .i64)) (hi : P.info? e = some i) (hz : i.zero = some z) (hzc : z.cells.size = 1) (hs : i.size = 1) (hb : i.bytes = 8)
    (n : Nat) (h0 : 0 < n) (h63 : n ≤ 1048576) :
    (Builtin.append_ #[t, u] ty #[.slice none 0 0, .int .i64 (n : Int)]).run P w =
      .ok (.slice (some ⟨w.heap.size, 0, none⟩) n (grownCap w n 0 e)) (w.drew.alloc (.cells (Builtin.zeroCells z.cells n ++ Builtin.zeroCells z.cells (grownCap w n 0 e - n)) e)) := by
  have hn : n ≠ 0 := by omega
  have h63' : ¬ (9223372036854775807 < (n : Int)) := by omega
  have h48' : ¬ (281474976710656 < Builtin.nextslicecap n 0 * i.bytes) := by rw [nextslicecap_zero h0, hb]; omega
  have h48b : ¬ (281474976710656 < Builtin.nextslicecap n 0 * 8) := by rw [nextslicecap_zero h0]; omega
  have hw : IntKind.i64.wrap (n : Int) = (n : Int) := by rw [IntKind.wrap_i64]; omega
  have h1 : ¬ ((n : Int) < 0) := by omega
  have h2 : ¬ (281474976710656 < (n : Int) * 8) := by omega
  simp [Builtin.append_, run_underlying ht, run_underlying hu, sizeOf, typeInfo, zeroValue, hi, hz, hs, hb, Builtin.lenOf, hn, h63', h48', h48b, hw, h1, h2, Question.forced, run_firstCells_none, newRow, grownCap, asInt, asIntOf]


/-- a grown row with nothing in it -/
theorem OwnI.made (w : World) (n cap : Nat) (hc : n ≤ cap) (hm : cap ≤ maxLen) :
    OwnI (w.drew.alloc (.cells (Builtin.zeroCells (Value.int .i64 0).cells n ++ Builtin.zeroCells (Value.int .i64 0).cells (cap - n)) 3)) w.heap.size (w.heap.size + 1) (.slice (some ⟨w.heap.size, 0, none⟩) 0 cap) [] := by
  refine ⟨⟨rfl, .inr ⟨w.heap.size, cap, _, rfl, Nat.le_refl _, heap_alloc_new w.drew _, Nat.zero_le _, hm, ?_, by simp⟩⟩, fun k e => by simp [Value.ownBlock] at e; omega⟩
  simp only [Array.size_append, size_zeroCells]
  simp [Value.cells]
  omega
section
variable {ops : Array Oper} {rest : List Oper} {o : Oper} {a : Act} {Q : Exit → Act → World → Prop}
/-- 'append([]int(nil)[:0], make([]int, n)...)' -/
theorem wpList_append_made (w : World) (hg : o.guard = none) (s x : Operand) (hop : o.op = Op.call { callee := Callee.builtin Builtin.append, args := #[s, x], argTypes := #[27, 3] })
    (n : Nat) (hs : a.eval s = .slice none 0 0) (hx : a.eval x = .int .i64 (n : Int)) (h0 : 0 < n) (hn : n ≤ 1048576)
    (hK : ∀ cap w', n ≤ cap → OwnI w' w.heap.size (w.heap.size + 1) (.slice (some ⟨w.heap.size, 0, none⟩) 0 cap) [] → Below w.heap.size w w' → w'.heap.size = w.heap.size + 1 → wpList Tryz.prog ops Q rest (a.put o.dst (.slice (some ⟨w.heap.size, 0, none⟩) n cap)) w') :
    wpList Tryz.prog ops Q (o :: rest) a w := by
  obtain ⟨i0, hi, hz0, hz1, hz2⟩ := info_parts infoI
  refine wpList_plain hg fun K hK' => ?_
  have hrun := run_append_made (P := Tryz.prog) w 27 3 o.type 3 i0 (.int .i64 0) Tryz.underlying27 Tryz.underlying3 hi hz0 rfl hz1 hz2 n h0 hn
  have hge := grownCap_ge w n 0 3
  have hcm : grownCap w n 0 3 ≤ maxLen := grownCap_le_maxLen w n 0 3 (by unfold maxLen; omega)
  unfold Oper.wp
  simp [execOp, hop, resolve, invoke, builtin, hs, hx, hrun, Result.andThen]
  exact hK' _ _ (hK _ _ hge (OwnI.made w n _ hge hcm) (((Below.refl _ _).drew).alloc (Nat.le_refl _) _) (by simp))
end
set_option maxHeartbeats 800000 in
theorem grow_nil (n : Nat) (w : World) (hn : n ≤ 1048576) :
    Calls Tryz.prog 248 #[.slice none 0 0, .int .i64 (n : Int)] w fun e w' => ∃ A c, e = .returned (.slice A 0 c) ∧ OwnI w' w.heap.size w'.heap.size (.slice A 0 c) [] ∧ Below w.heap.size w w' := by
  have h1 : ¬ ((n : Int) < 0) := by omega
  by_cases h0 : n = 0
  · subst h0
    go_enter Tryz.func248, Tryz.ntmps248
    go_wp2
    go_ret
    exact ⟨none, 0, rfl, OwnI.nil _ _ _, Below.refl _ _⟩
  · have hp : 0 < n := by omega
    have hpi : (0 : Int) < (n : Int) := by omega
    clear h0
    go_enter Tryz.func248, Tryz.ntmps248
    go_wp2_with (at_builtin; refine wpList_append_made _ rfl _ _ rfl n rfl rfl hp hn ?_)
    intro cap w2 hc ho hb hs
    have z := hb.size
    have HS := Lib.hid hs
    clear hs
    go_wp2
    go_ret
    exact ⟨_, _, rfl, ho.mono (Nat.le_refl _) (Nat.le_of_eq HS.out.symm), hb⟩
/-- the rows one after the other, behind a name that the walk does not open -/
def flatL (xss : List (List Int)) : List Int := xss.flatten
theorem flat_take {xss : List (List Int)} {k : Nat} (h : k < xss.length) : flatL (xss.take (k + 1)) = flatL (xss.take k) ++ rx xss k := by
  unfold flatL
  rw [take_rx h, List.flatten_append]; simp
theorem flat_le (xss : List (List Int)) (k : Nat) : (flatL (xss.take k)).length ≤ (flatL xss).length := by
  unfold flatL
  conv => rhs; rw [← List.take_append_drop k xss, List.flatten_append, List.length_append]
  omega
theorem flatL_2 (a b : List Int) : flatL [a, b] = a ++ b := by simp [flatL]
set_option maxHeartbeats 1600000 in
theorem concat_any (A : Option Addr) (n c : Nat) (xss : List (List Int)) (w : World) (h : RowsAt w A n xss) (hn : n ≤ 1048576) (hf : (flatL xss).length ≤ 1048576) :
    Calls Tryz.prog 233 #[.slice A n c] w fun e w' => ∃ A' c', e = .returned (.slice A' (flatL xss).length c') ∧ OwnI w' w.heap.size w'.heap.size (.slice A' (flatL xss).length c') (flatL xss) ∧ Below w.heap.size w w' := by
  obtain rfl := h.len
  have HF := Lib.hid (fun k (hk : k < xss.length) => (by rw [flat_take hk, List.length_append] : (flatL (xss.take (k + 1))).length = (flatL (xss.take k)).length + (rx xss k).length))
  have HA := Lib.hid (fun k (hk : k < xss.length) => flat_take (xss := xss) hk)
  have HL := Lib.hid (flat_le xss)
  have HE := Lib.hid (show flatL (xss.take xss.length) = flatL xss by rw [List.take_length])
  have H0 : flatL (xss.take 0) = [] := by simp [flatL]
  obtain ⟨T, hT⟩ : ∃ T : Nat → List Int, ∀ k, T k = flatL (xss.take k) := ⟨_, fun _ => rfl⟩
  simp only [← hT] at HF HA HL HE H0
  clear hT
  have H0L : (T 0).length = 0 := by rw [H0]; rfl
  have HZ := Lib.hid H0
  have HZL := Lib.hid H0L
  clear H0 H0L
  go_enter Tryz.func233, Tryz.ntmps233
  go_wp2
  go_loop [3, 5, 11] (fun v _ i => ∃ k : Nat, k ≤ xss.length ∧ i = .int .i64 k ∧ v = .int .i64 ((T k).length : Int)) (fun _ _ i => xss.length - (intOf i).toNat)
  case atStart => exact ⟨0, Nat.zero_le _, rfl, by rw [HZL.out]; rfl⟩
  case round =>
    obtain ⟨k, hk, rfl, rfl⟩ := hrel
    have hl := HL.out k
    by_cases hlt : k < xss.length
    · obtain ⟨b, o, A', c', rfl, _, hck, hcc, hin⟩ := h.at_ hlt
      have hs := HF.out k hlt
      have hl2 := HL.out (k + 1)
      have hs2 : (T k).length + (rx xss k).length ≤ 1048576 := by omega
      have HS := Lib.hid hs
      have nn : ¬ (((T k).length : Int) + ((rx xss k).length : Int) < 0) := by omega
      clear hs hl2
      go_wp2
      go_round
      case rel => exact ⟨k + 1, by omega, by go_num, by rw [HS.out]; go_num⟩
      case measure => simp [intOf]; omega
    · obtain rfl : k = xss.length := by omega
      rw [HE.out]
      go_wp2_with fail
      (with_reducible refine (grow_nil _ _ hf).mono ?_)
      rintro e w1 ⟨A1, c1, rfl, o1, b1⟩
      go_wp2
      go_loopw [6, 8, 27] (fun v _ i wr => ∃ (k : Nat) (A' : Option Addr) (c' : Nat), k ≤ xss.length ∧ i = .int .i64 k ∧ v = .slice A' (T k).length c' ∧ OwnI wr w.heap.size wr.heap.size (.slice A' (T k).length c') (T k) ∧ Below w.heap.size w wr) (fun _ _ i _ => xss.length - (intOf i).toNat)
      case atStart => exact ⟨0, _, _, Nat.zero_le _, rfl, by rw [HZL.out], by rw [HZ.out]; exact o1, b1⟩
      case round =>
        obtain ⟨k, A2, c2, hk2, rfl, rfl, hown, hb⟩ := hrel
        have zr := hb.size
        have hl3 := HL.out k
        by_cases hlt2 : k < xss.length
        · obtain ⟨b, o, A', c', rfl, _, hck, hcc, hin⟩ := (h.below hb).at_ hlt2
          have hs := HF.out k hlt2
          have hl2 := HL.out (k + 1)
          have hs2 : (T k).length + (rx xss k).length ≤ 1048576 := by omega
          have HS := Lib.hid hs
          clear hs hl2
          go_wp2_with (at_builtin; refine wpList_append_ints _ rfl _ _ rfl w.heap.size wr.heap.size _ _ _ (T k) rfl hown A' _ c' (rx xss k) rfl hin (by omega) zr (Nat.le_refl _) ?_)
          intro A3 c3 w3 o3 hon
          rw [← HA.out k hlt2, ← HS.out] at o3
          have hb3 := hb.trans (hon.toBelow (Nat.le_refl _) zr)
          clear hon hown hb hin hck
          go_wp2
          go_roundw
          case rel => exact ⟨k + 1, _, _, by omega, by go_num, by rw [HS.out], o3, hb3⟩
          case measure => simp [intOf]; omega
        · obtain rfl : k = xss.length := by omega
          rw [HE.out] at hown ⊢
          go_wp2
          go_ret
          exact ⟨_, _, rfl, hown, hb⟩
end Go.Proofs.YtaanppihgldeaaaGreatDoor
