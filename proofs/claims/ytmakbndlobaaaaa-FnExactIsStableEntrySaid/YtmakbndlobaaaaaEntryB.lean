/- The pairs that block an entry: what is computed, and the closure that asks for a worse student. -/
import Derived.Test.YtmakbndlobaaaaaFilledP
import Derived.Test.YtmakbndlobaaaaaIndices
import Derived.Test.YtmakbndlobaaaaaColl
namespace Go.Proofs.Ytmakbndlobaaaaa
set_option linter.unusedVariables false
open Go.RowKit

/-- student x is at college k, which prefers i -/
def worseE (ccc : List (List Int)) (zs : List Int) (k i : Nat) (x : Int) : Bool := decide (ix zs x.toNat = k) && pref (rx ccc k) i x
def wantsE (ccc : List (List Int)) (ps zs : List Int) (k i : Nat) : Bool := decide (ix (filledOf ccc zs) k < ix ps k) || !allN (fun x => !worseE ccc zs k i x) zs.length
def longsE (sss : List (List Int)) (zs : List Int) (i k : Nat) : Bool := decide (ix zs i < 0) || pref (rx sss i) k (ix zs i)
def blockE (sss ccc : List (List Int)) (ps zs : List Int) (i k : Nat) : Bool := longsE sss zs i k && wantsE ccc ps zs k i
def blocksE (sss ccc : List (List Int)) (ps zs : List Int) : List (List Int) := collTo (blockE sss ccc ps zs) pairG ccc.length zs.length
def stableE (sss ccc : List (List Int)) (ps zs : List Int) : Bool := entryOk sss ccc ps zs && ((blocksE sss ccc ps zs).length == 0)
theorem blocksE_len {sss ccc : List (List Int)} {ps zs : List Int} (h : zs.length ≤ 5) (hc : ccc.length ≤ 3) : (blocksE sss ccc ps zs).length ≤ 60 := by
  have := collTo_len (f := blockE sss ccc ps zs) (g := pairG) (n := ccc.length) (by omega) zs.length
  unfold blocksE; omega
theorem rankE_len {n : Nat} {xs : List Int} (h : rankOk n xs = true) : xs.length = n := by have := (rankOk_facts h).2.2.1; omega
/-- what the closure reads: the school, the list, student i, college k, each in a cell -/
structure BlkAt (w : World) (gs gl gi gk : Nat) (A : Option Addr) (n c : Nat) (sss : List (List Int)) (B : Option Addr) (m d : Nat) (ccc : List (List Int)) (C : Option Addr) (l e : Nat) (ps : List Int) (D : Option Addr) (p r : Nat) (zs : List Int) (i k : Nat) : Prop where
  s : SchAt w gs A n c sss B m d ccc C l e ps
  z : IntsAt w D p zs
  kl : w.cell? ⟨gl, 0, none⟩ = some (.slice D p r)
  ki : w.cell? ⟨gi, 0, none⟩ = some (.int .i64 (i : Int))
  kk : w.cell? ⟨gk, 0, none⟩ = some (.int .i64 (k : Int))
theorem BlkAt.below {w w' : World} {gs gl gi gk : Nat} {A : Option Addr} {n c : Nat} {sss : List (List Int)} {B : Option Addr} {m d : Nat} {ccc : List (List Int)} {C : Option Addr} {l e : Nat} {ps : List Int} {D : Option Addr} {p r : Nat} {zs : List Int} {i k : Nat}
    (h : BlkAt w gs gl gi gk A n c sss B m d ccc C l e ps D p r zs i k) (hb : Below w.heap.size w w') : BlkAt w' gs gl gi gk A n c sss B m d ccc C l e ps D p r zs i k :=
  ⟨h.s.below hb, h.z.below hb, cell_carry hb h.kl, cell_carry hb h.ki, cell_carry hb h.kk⟩
set_option maxHeartbeats 1000000 in
theorem worse_any (x : Nat) {gs gl gi gk : Nat} {A : Option Addr} {n c : Nat} {sss : List (List Int)} {B : Option Addr} {m d : Nat} {ccc : List (List Int)} {C : Option Addr} {l e : Nat} {ps : List Int} {D : Option Addr} {p r : Nat} {zs : List Int} {i k : Nat} (W : World)
    (K : BlkAt W gs gl gi gk A n c sss B m d ccc C l e ps D p r zs i k) (F : EntryF sss ccc ps zs) (hx : x < zs.length) (hk : k < ccc.length) :
    Calls Try.prog 53 #[.int .i64 (x : Int), .pointer (some ⟨gl, 0, none⟩), .pointer (some ⟨gk, 0, none⟩), .pointer (some ⟨gs, 0, none⟩), .pointer (some ⟨gi, 0, none⟩)] W fun e W' => e = .returned (.bool (worseE ccc zs k i x)) ∧ ∃ q, W' = W.drewN q := by
  obtain ⟨⟨_, c1, _, _, col, _⟩, z, kl, ki, kk⟩ := K
  obtain rfl := z.len
  obtain rfl := col.len
  obtain ⟨b, o, A', c', rfl, _, hck, hcc, hin⟩ := col.at_ hk
  obtain ⟨bz, oz, rfl, _, hcz⟩ := z.at_ hx
  have zx := hcz x hx
  have rl : (rx ccc k).length ≤ 1099511627776 := by have := rankE_len (F.sch.cr k hk); have := F.sch.n5; omega
  clear hcz z col F
  have x1 : (0 : Int) ≤ (x : Int) := by omega
  have x2 : (x : Int) < (zs.length : Int) := by omega
  have k1 : (0 : Int) ≤ (k : Int) := by omega
  have k2 : (k : Int) < (ccc.length : Int) := by omega
  have K1 := Lib.hid (fun q => Calls.quiet_of_same (n := q) ((implPrefers _ _ c' _ (i : Int) (x : Int) _ (hin.drewN q) rl).mono fun _ _ ⟨he, hw⟩ => ⟨he, hw.symm⟩))
  by_cases hz : ix zs x = k
  · have e1 : worseE ccc zs k i x = pref (rx ccc k) i x := by unfold worseE; rw [Int.toNat_natCast, decide_eq_true hz]; simp
    have t0 : (ix zs x == (k : Int)) = true := by rw [beq_iff_eq]; exact hz
    rw [e1]
    clear e1 hz hin hcc
    generalize ix zs x = zx_ at *
    go_enter Try.func53, Try.ntmps53
    go_wp2
    go_quiet ((first | (with_reducible exact K1.out _)))
    go_wp2
    go_ret
    exact ⟨rfl, _, rfl⟩
  · have e1 : worseE ccc zs k i x = false := by unfold worseE; rw [Int.toNat_natCast, decide_eq_false hz]; simp
    have t0 : (ix zs x == (k : Int)) = false := by rw [beq_eq_false_iff_ne]; exact hz
    rw [e1]
    clear e1 hz hin hcc
    generalize ix zs x = zx_ at *
    go_enter Try.func53, Try.ntmps53
    go_wp2
    go_quiet (fail)
    go_wp2
    go_ret
    exact ⟨rfl, _, rfl⟩
end Go.Proofs.Ytmakbndlobaaaaa
