/- A table of at most three rows and columns can be rounded so that rows, columns and the total are rounded: cycles in the table with its border. Plain numbers: no program is walked here. -/
import Derived.Test.YtefppihanblhmaaRoundP
import Derived.KernelRfl
namespace Go.Proofs.Ytefppihanblhmaa
set_option linter.unusedVariables false
open Go.RowKit
namespace RC
abbrev n : Option Bool := none
abbrev p : Option Bool := some true
abbrev m : Option Bool := some false
def val : Option Bool → Int
  | none => 0
  | some true => 1
  | some false => -1
/-- the cycles of a 4x4 table, each with its signs -/
def cyc : List (List (Option Bool)) := [
  [p,m,n,n,m,p,n,n,n,n,n,n,n,n,n,n],
  [p,n,m,n,m,n,p,n,n,n,n,n,n,n,n,n],
  [p,n,n,m,m,n,n,p,n,n,n,n,n,n,n,n],
  [n,p,m,n,n,m,p,n,n,n,n,n,n,n,n,n],
  [n,p,n,m,n,m,n,p,n,n,n,n,n,n,n,n],
  [n,n,p,m,n,n,m,p,n,n,n,n,n,n,n,n],
  [p,m,n,n,n,n,n,n,m,p,n,n,n,n,n,n],
  [p,n,m,n,n,n,n,n,m,n,p,n,n,n,n,n],
  [p,n,n,m,n,n,n,n,m,n,n,p,n,n,n,n],
  [n,p,m,n,n,n,n,n,n,m,p,n,n,n,n,n],
  [n,p,n,m,n,n,n,n,n,m,n,p,n,n,n,n],
  [n,n,p,m,n,n,n,n,n,n,m,p,n,n,n,n],
  [p,m,n,n,n,n,n,n,n,n,n,n,m,p,n,n],
  [p,n,m,n,n,n,n,n,n,n,n,n,m,n,p,n],
  [p,n,n,m,n,n,n,n,n,n,n,n,m,n,n,p],
  [n,p,m,n,n,n,n,n,n,n,n,n,n,m,p,n],
  [n,p,n,m,n,n,n,n,n,n,n,n,n,m,n,p],
  [n,n,p,m,n,n,n,n,n,n,n,n,n,n,m,p],
  [n,n,n,n,p,m,n,n,m,p,n,n,n,n,n,n],
  [n,n,n,n,p,n,m,n,m,n,p,n,n,n,n,n],
  [n,n,n,n,p,n,n,m,m,n,n,p,n,n,n,n],
  [n,n,n,n,n,p,m,n,n,m,p,n,n,n,n,n],
  [n,n,n,n,n,p,n,m,n,m,n,p,n,n,n,n],
  [n,n,n,n,n,n,p,m,n,n,m,p,n,n,n,n],
  [n,n,n,n,p,m,n,n,n,n,n,n,m,p,n,n],
  [n,n,n,n,p,n,m,n,n,n,n,n,m,n,p,n],
  [n,n,n,n,p,n,n,m,n,n,n,n,m,n,n,p],
  [n,n,n,n,n,p,m,n,n,n,n,n,n,m,p,n],
  [n,n,n,n,n,p,n,m,n,n,n,n,n,m,n,p],
  [n,n,n,n,n,n,p,m,n,n,n,n,n,n,m,p],
  [n,n,n,n,n,n,n,n,p,m,n,n,m,p,n,n],
  [n,n,n,n,n,n,n,n,p,n,m,n,m,n,p,n],
  [n,n,n,n,n,n,n,n,p,n,n,m,m,n,n,p],
  [n,n,n,n,n,n,n,n,n,p,m,n,n,m,p,n],
  [n,n,n,n,n,n,n,n,n,p,n,m,n,m,n,p],
  [n,n,n,n,n,n,n,n,n,n,p,m,n,n,m,p],
  [m,n,p,n,n,p,m,n,p,m,n,n,n,n,n,n],
  [m,p,n,n,n,m,p,n,p,n,m,n,n,n,n,n],
  [n,m,p,n,p,n,m,n,m,p,n,n,n,n,n,n],
  [n,p,m,n,p,m,n,n,m,n,p,n,n,n,n,n],
  [p,m,n,n,m,n,p,n,n,p,m,n,n,n,n,n],
  [p,n,m,n,m,p,n,n,n,m,p,n,n,n,n,n],
  [m,n,n,p,n,p,n,m,p,m,n,n,n,n,n,n],
  [m,p,n,n,n,m,n,p,p,n,n,m,n,n,n,n],
  [n,m,n,p,p,n,n,m,m,p,n,n,n,n,n,n],
  [n,p,n,m,p,m,n,n,m,n,n,p,n,n,n,n],
  [p,m,n,n,m,n,n,p,n,p,n,m,n,n,n,n],
  [p,n,n,m,m,p,n,n,n,m,n,p,n,n,n,n],
  [m,n,n,p,n,n,p,m,p,n,m,n,n,n,n,n],
  [m,n,p,n,n,n,m,p,p,n,n,m,n,n,n,n],
  [n,n,m,p,p,n,n,m,m,n,p,n,n,n,n,n],
  [n,n,p,m,p,n,m,n,m,n,n,p,n,n,n,n],
  [p,n,m,n,m,n,n,p,n,n,p,m,n,n,n,n],
  [p,n,n,m,m,n,p,n,n,n,m,p,n,n,n,n],
  [n,m,n,p,n,n,p,m,n,p,m,n,n,n,n,n],
  [n,m,p,n,n,n,m,p,n,p,n,m,n,n,n,n],
  [n,n,m,p,n,p,n,m,n,m,p,n,n,n,n,n],
  [n,n,p,m,n,p,m,n,n,m,n,p,n,n,n,n],
  [n,p,m,n,n,m,n,p,n,n,p,m,n,n,n,n],
  [n,p,n,m,n,m,p,n,n,n,m,p,n,n,n,n],
  [m,n,p,n,n,p,m,n,n,n,n,n,p,m,n,n],
  [m,p,n,n,n,m,p,n,n,n,n,n,p,n,m,n],
  [n,m,p,n,p,n,m,n,n,n,n,n,m,p,n,n],
  [n,p,m,n,p,m,n,n,n,n,n,n,m,n,p,n],
  [p,m,n,n,m,n,p,n,n,n,n,n,n,p,m,n],
  [p,n,m,n,m,p,n,n,n,n,n,n,n,m,p,n],
  [m,n,n,p,n,p,n,m,n,n,n,n,p,m,n,n],
  [m,p,n,n,n,m,n,p,n,n,n,n,p,n,n,m],
  [n,m,n,p,p,n,n,m,n,n,n,n,m,p,n,n],
  [n,p,n,m,p,m,n,n,n,n,n,n,m,n,n,p],
  [p,m,n,n,m,n,n,p,n,n,n,n,n,p,n,m],
  [p,n,n,m,m,p,n,n,n,n,n,n,n,m,n,p],
  [m,n,n,p,n,n,p,m,n,n,n,n,p,n,m,n],
  [m,n,p,n,n,n,m,p,n,n,n,n,p,n,n,m],
  [n,n,m,p,p,n,n,m,n,n,n,n,m,n,p,n],
  [n,n,p,m,p,n,m,n,n,n,n,n,m,n,n,p],
  [p,n,m,n,m,n,n,p,n,n,n,n,n,n,p,m],
  [p,n,n,m,m,n,p,n,n,n,n,n,n,n,m,p],
  [n,m,n,p,n,n,p,m,n,n,n,n,n,p,m,n],
  [n,m,p,n,n,n,m,p,n,n,n,n,n,p,n,m],
  [n,n,m,p,n,p,n,m,n,n,n,n,n,m,p,n],
  [n,n,p,m,n,p,m,n,n,n,n,n,n,m,n,p],
  [n,p,m,n,n,m,n,p,n,n,n,n,n,n,p,m],
  [n,p,n,m,n,m,p,n,n,n,n,n,n,n,m,p],
  [m,n,p,n,n,n,n,n,n,p,m,n,p,m,n,n],
  [m,p,n,n,n,n,n,n,n,m,p,n,p,n,m,n],
  [n,m,p,n,n,n,n,n,p,n,m,n,m,p,n,n],
  [n,p,m,n,n,n,n,n,p,m,n,n,m,n,p,n],
  [p,m,n,n,n,n,n,n,m,n,p,n,n,p,m,n],
  [p,n,m,n,n,n,n,n,m,p,n,n,n,m,p,n],
  [m,n,n,p,n,n,n,n,n,p,n,m,p,m,n,n],
  [m,p,n,n,n,n,n,n,n,m,n,p,p,n,n,m],
  [n,m,n,p,n,n,n,n,p,n,n,m,m,p,n,n],
  [n,p,n,m,n,n,n,n,p,m,n,n,m,n,n,p],
  [p,m,n,n,n,n,n,n,m,n,n,p,n,p,n,m],
  [p,n,n,m,n,n,n,n,m,p,n,n,n,m,n,p],
  [m,n,n,p,n,n,n,n,n,n,p,m,p,n,m,n],
  [m,n,p,n,n,n,n,n,n,n,m,p,p,n,n,m],
  [n,n,m,p,n,n,n,n,p,n,n,m,m,n,p,n],
  [n,n,p,m,n,n,n,n,p,n,m,n,m,n,n,p],
  [p,n,m,n,n,n,n,n,m,n,n,p,n,n,p,m],
  [p,n,n,m,n,n,n,n,m,n,p,n,n,n,m,p],
  [n,m,n,p,n,n,n,n,n,n,p,m,n,p,m,n],
  [n,m,p,n,n,n,n,n,n,n,m,p,n,p,n,m],
  [n,n,m,p,n,n,n,n,n,p,n,m,n,m,p,n],
  [n,n,p,m,n,n,n,n,n,p,m,n,n,m,n,p],
  [n,p,m,n,n,n,n,n,n,m,n,p,n,n,p,m],
  [n,p,n,m,n,n,n,n,n,m,p,n,n,n,m,p],
  [n,n,n,n,m,n,p,n,n,p,m,n,p,m,n,n],
  [n,n,n,n,m,p,n,n,n,m,p,n,p,n,m,n],
  [n,n,n,n,n,m,p,n,p,n,m,n,m,p,n,n],
  [n,n,n,n,n,p,m,n,p,m,n,n,m,n,p,n],
  [n,n,n,n,p,m,n,n,m,n,p,n,n,p,m,n],
  [n,n,n,n,p,n,m,n,m,p,n,n,n,m,p,n],
  [n,n,n,n,m,n,n,p,n,p,n,m,p,m,n,n],
  [n,n,n,n,m,p,n,n,n,m,n,p,p,n,n,m],
  [n,n,n,n,n,m,n,p,p,n,n,m,m,p,n,n],
  [n,n,n,n,n,p,n,m,p,m,n,n,m,n,n,p],
  [n,n,n,n,p,m,n,n,m,n,n,p,n,p,n,m],
  [n,n,n,n,p,n,n,m,m,p,n,n,n,m,n,p],
  [n,n,n,n,m,n,n,p,n,n,p,m,p,n,m,n],
  [n,n,n,n,m,n,p,n,n,n,m,p,p,n,n,m],
  [n,n,n,n,n,n,m,p,p,n,n,m,m,n,p,n],
  [n,n,n,n,n,n,p,m,p,n,m,n,m,n,n,p],
  [n,n,n,n,p,n,m,n,m,n,n,p,n,n,p,m],
  [n,n,n,n,p,n,n,m,m,n,p,n,n,n,m,p],
  [n,n,n,n,n,m,n,p,n,n,p,m,n,p,m,n],
  [n,n,n,n,n,m,p,n,n,n,m,p,n,p,n,m],
  [n,n,n,n,n,n,m,p,n,p,n,m,n,m,p,n],
  [n,n,n,n,n,n,p,m,n,p,m,n,n,m,n,p],
  [n,n,n,n,n,p,m,n,n,m,n,p,n,n,p,m],
  [n,n,n,n,n,p,n,m,n,m,p,n,n,n,m,p],
  [m,n,n,p,n,m,p,n,n,p,n,m,p,n,m,n],
  [m,n,n,p,n,n,p,m,n,p,m,n,p,m,n,n],
  [m,n,n,p,n,n,p,m,p,m,n,n,n,p,m,n],
  [m,n,n,p,n,p,m,n,n,n,p,m,p,m,n,n],
  [m,n,n,p,n,p,n,m,n,m,p,n,p,n,m,n],
  [m,n,n,p,n,p,n,m,p,n,m,n,n,m,p,n],
  [m,n,p,n,n,m,n,p,n,p,m,n,p,n,n,m],
  [m,n,p,n,n,n,m,p,n,p,n,m,p,m,n,n],
  [m,n,p,n,n,n,m,p,p,m,n,n,n,p,n,m],
  [m,n,p,n,n,p,m,n,n,m,n,p,p,n,n,m],
  [m,n,p,n,n,p,m,n,p,n,n,m,n,m,n,p],
  [m,n,p,n,n,p,n,m,n,n,m,p,p,m,n,n],
  [m,p,n,n,n,m,n,p,n,n,p,m,p,n,m,n],
  [m,p,n,n,n,m,n,p,p,n,m,n,n,n,p,m],
  [m,p,n,n,n,m,p,n,n,n,m,p,p,n,n,m],
  [m,p,n,n,n,m,p,n,p,n,n,m,n,n,m,p],
  [m,p,n,n,n,n,m,p,n,m,p,n,p,n,n,m],
  [m,p,n,n,n,n,p,m,n,m,n,p,p,n,m,n],
  [n,m,n,p,m,n,p,n,p,n,n,m,n,p,m,n],
  [n,m,n,p,n,n,p,m,m,p,n,n,p,n,m,n],
  [n,m,n,p,n,n,p,m,p,n,m,n,m,p,n,n],
  [n,m,n,p,p,n,m,n,n,n,p,m,m,p,n,n],
  [n,m,n,p,p,n,n,m,m,n,p,n,n,p,m,n],
  [n,m,n,p,p,n,n,m,n,p,m,n,m,n,p,n],
  [n,m,p,n,m,n,n,p,p,n,m,n,n,p,n,m],
  [n,m,p,n,n,n,m,p,m,p,n,n,p,n,n,m],
  [n,m,p,n,n,n,m,p,p,n,n,m,m,p,n,n],
  [n,m,p,n,p,n,m,n,m,n,n,p,n,p,n,m],
  [n,m,p,n,p,n,m,n,n,p,n,m,m,n,n,p],
  [n,m,p,n,p,n,n,m,n,n,m,p,m,p,n,n],
  [n,n,m,p,m,p,n,n,p,n,n,m,n,m,p,n],
  [n,n,m,p,n,p,n,m,m,n,p,n,p,m,n,n],
  [n,n,m,p,n,p,n,m,p,m,n,n,m,n,p,n],
  [n,n,m,p,p,m,n,n,n,p,n,m,m,n,p,n],
  [n,n,m,p,p,n,n,m,m,p,n,n,n,m,p,n],
  [n,n,m,p,p,n,n,m,n,m,p,n,m,p,n,n],
  [n,n,p,m,m,p,n,n,p,n,m,n,n,m,n,p],
  [n,n,p,m,n,p,m,n,m,n,n,p,p,m,n,n],
  [n,n,p,m,n,p,m,n,p,m,n,n,m,n,n,p],
  [n,n,p,m,p,m,n,n,n,p,m,n,m,n,n,p],
  [n,n,p,m,p,n,m,n,m,p,n,n,n,m,n,p],
  [n,n,p,m,p,n,m,n,n,m,n,p,m,p,n,n],
  [n,p,m,n,m,n,n,p,p,m,n,n,n,n,p,m],
  [n,p,m,n,n,m,n,p,m,n,p,n,p,n,n,m],
  [n,p,m,n,n,m,n,p,p,n,n,m,m,n,p,n],
  [n,p,m,n,p,m,n,n,m,n,n,p,n,n,p,m],
  [n,p,m,n,p,m,n,n,n,n,p,m,m,n,n,p],
  [n,p,m,n,p,n,n,m,n,m,n,p,m,n,p,n],
  [n,p,n,m,m,n,p,n,p,m,n,n,n,n,m,p],
  [n,p,n,m,n,m,p,n,m,n,n,p,p,n,m,n],
  [n,p,n,m,n,m,p,n,p,n,m,n,m,n,n,p],
  [n,p,n,m,p,m,n,n,m,n,p,n,n,n,m,p],
  [n,p,n,m,p,m,n,n,n,n,m,p,m,n,p,n],
  [n,p,n,m,p,n,m,n,n,m,p,n,m,n,n,p],
  [p,m,n,n,m,n,n,p,n,n,p,m,n,p,m,n],
  [p,m,n,n,m,n,n,p,n,p,m,n,n,n,p,m],
  [p,m,n,n,m,n,p,n,n,n,m,p,n,p,n,m],
  [p,m,n,n,m,n,p,n,n,p,n,m,n,n,m,p],
  [p,m,n,n,n,n,m,p,m,n,p,n,n,p,n,m],
  [p,m,n,n,n,n,p,m,m,n,n,p,n,p,m,n],
  [p,n,m,n,m,n,n,p,n,m,p,n,n,p,n,m],
  [p,n,m,n,m,n,n,p,n,p,n,m,n,m,p,n],
  [p,n,m,n,m,p,n,n,n,m,n,p,n,n,p,m],
  [p,n,m,n,m,p,n,n,n,n,p,m,n,m,n,p],
  [p,n,m,n,n,m,n,p,m,p,n,n,n,n,p,m],
  [p,n,m,n,n,p,n,m,m,n,n,p,n,m,p,n],
  [p,n,n,m,m,n,p,n,n,m,n,p,n,p,m,n],
  [p,n,n,m,m,n,p,n,n,p,m,n,n,m,n,p],
  [p,n,n,m,m,p,n,n,n,m,p,n,n,n,m,p],
  [p,n,n,m,m,p,n,n,n,n,m,p,n,m,p,n],
  [p,n,n,m,n,m,p,n,m,p,n,n,n,n,m,p],
  [p,n,n,m,n,p,m,n,m,n,p,n,n,m,n,p]]
def le : List (Option Bool) → List Bool → Bool
  | [], _ => true
  | _ :: _, [] => false
  | s :: ss, b :: bs => (!s.isSome || b) && le ss bs
def okr (a b c d : Bool) : Bool := match a, b, c, d with
  | true, false, false, false => false
  | false, true, false, false => false
  | false, false, true, false => false
  | false, false, false, true => false
  | _, _, _, _ => true
def B4 (f : Bool → Bool → Bool → Bool → Bool) : Bool :=
  f false false false false &&
  f false false false true &&
  f false false true false &&
  f false false true true &&
  f false true false false &&
  f false true false true &&
  f false true true false &&
  f false true true true &&
  f true false false false &&
  f true false false true &&
  f true false true false &&
  f true false true true &&
  f true true false false &&
  f true true false true &&
  f true true true false &&
  f true true true true
theorem B4_all {f} (h : B4 f = true) : ∀ a b c d, f a b c d = true := by
  unfold B4 at h
  simp only [Bool.and_eq_true] at h
  intro a b c d
  cases a <;> cases b <;> cases c <;> cases d <;> simp_all
def find (l : List Bool) : Bool := cyc.any fun s => le s l
def chk : Bool := B4 fun a0 a1 a2 a3 => !okr a0 a1 a2 a3 || B4 fun b0 b1 b2 b3 => !okr b0 b1 b2 b3 || B4 fun c0 c1 c2 c3 => !okr c0 c1 c2 c3 || B4 fun d0 d1 d2 d3 => !okr d0 d1 d2 d3 || !okr a0 b0 c0 d0 || !okr a1 b1 c1 d1 || !okr a2 b2 c2 d2 || !okr a3 b3 c3 d3 || !(a0 || a1 || a2 || a3 || b0 || b1 || b2 || b3 || c0 || c1 || c2 || c3 || d0 || d1 || d2 || d3) || find [a0, a1, a2, a3, b0, b1, b2, b3, c0, c1, c2, c3, d0, d1, d2, d3]
theorem chk_true : chk = true := by kernel_rfl
def d4 (s : List (Option Bool)) (k : Nat) : Int := val (s.getD k none)
def dirOk (s : List (Option Bool)) : Bool := s.length == 16 &&
  (d4 s 0 + d4 s 1 + d4 s 2 + d4 s 3 == 0) && (d4 s 4 + d4 s 5 + d4 s 6 + d4 s 7 == 0) && (d4 s 8 + d4 s 9 + d4 s 10 + d4 s 11 == 0) && (d4 s 12 + d4 s 13 + d4 s 14 + d4 s 15 == 0) && (d4 s 0 + d4 s 4 + d4 s 8 + d4 s 12 == 0) && (d4 s 1 + d4 s 5 + d4 s 9 + d4 s 13 == 0) && (d4 s 2 + d4 s 6 + d4 s 10 + d4 s 14 == 0) && (d4 s 3 + d4 s 7 + d4 s 11 + d4 s 15 == 0) &&
  !((32768 * d4 s 0 + 16384 * d4 s 1 + 8192 * d4 s 2 + 4096 * d4 s 3 + 2048 * d4 s 4 + 1024 * d4 s 5 + 512 * d4 s 6 + 256 * d4 s 7 + 128 * d4 s 8 + 64 * d4 s 9 + 32 * d4 s 10 + 16 * d4 s 11 + 8 * d4 s 12 + 4 * d4 s 13 + 2 * d4 s 14 + 1 * d4 s 15) == 0)
theorem cyc_ok : cyc.all dirOk = true := by kernel_rfl
theorem all16 {P : Nat → Prop} (h0 : P 0) (h1 : P 1) (h2 : P 2) (h3 : P 3) (h4 : P 4) (h5 : P 5) (h6 : P 6) (h7 : P 7) (h8 : P 8) (h9 : P 9) (h10 : P 10) (h11 : P 11) (h12 : P 12) (h13 : P 13) (h14 : P 14) (h15 : P 15) : ∀ k, k < 16 → P k
  | 0, _ => h0
  | 1, _ => h1
  | 2, _ => h2
  | 3, _ => h3
  | 4, _ => h4
  | 5, _ => h5
  | 6, _ => h6
  | 7, _ => h7
  | 8, _ => h8
  | 9, _ => h9
  | 10, _ => h10
  | 11, _ => h11
  | 12, _ => h12
  | 13, _ => h13
  | 14, _ => h14
  | 15, _ => h15
  | k + 16, h => absurd h (by omega)
theorem le_at : ∀ {s : List (Option Bool)} {l : List Bool}, le s l = true → ∀ k, (s.getD k none).isSome = true → l.getD k false = true
  | [], _, _, k, h => by simp at h
  | _ :: _, [], h, _, _ => by simp [le] at h
  | s :: ss, b :: bs, h, 0, h1 => by
    simp only [le, Bool.and_eq_true] at h
    simp at h1
    have := h.1
    rw [h1] at this
    simpa using this
  | s :: ss, b :: bs, h, k + 1, h1 => by
    simp only [le, Bool.and_eq_true] at h
    have := le_at h.2 k (by simpa using h1)
    simpa using this
def wt (x : Nat → Int) : Int := 32768 * x 0 + 16384 * x 1 + 8192 * x 2 + 4096 * x 3 + 2048 * x 4 + 1024 * x 5 + 512 * x 6 + 256 * x 7 + 128 * x 8 + 64 * x 9 + 32 * x 10 + 16 * x 11 + 8 * x 12 + 4 * x 13 + 2 * x 14 + 1 * x 15
def rowS (x : Nat → Int) (i : Nat) : Int := x (4 * i) + x (4 * i + 1) + x (4 * i + 2) + x (4 * i + 3)
structure Bal (x : Nat → Int) : Prop where
  bd : ∀ k, k < 16 → 0 ≤ x k ∧ x k ≤ 10
  r0 : (x 0 + x 1 + x 2 + x 3) % 10 = 0
  r1 : (x 4 + x 5 + x 6 + x 7) % 10 = 0
  r2 : (x 8 + x 9 + x 10 + x 11) % 10 = 0
  r3 : (x 12 + x 13 + x 14 + x 15) % 10 = 0
  c0 : (x 0 + x 4 + x 8 + x 12) % 10 = 0
  c1 : (x 1 + x 5 + x 9 + x 13) % 10 = 0
  c2 : (x 2 + x 6 + x 10 + x 14) % 10 = 0
  c3 : (x 3 + x 7 + x 11 + x 15) % 10 = 0
/-- the same eight sums -/
structure Sums (x y : Nat → Int) : Prop where
  r0 : x 0 + x 1 + x 2 + x 3 = y 0 + y 1 + y 2 + y 3
  r1 : x 4 + x 5 + x 6 + x 7 = y 4 + y 5 + y 6 + y 7
  r2 : x 8 + x 9 + x 10 + x 11 = y 8 + y 9 + y 10 + y 11
  r3 : x 12 + x 13 + x 14 + x 15 = y 12 + y 13 + y 14 + y 15
  c0 : x 0 + x 4 + x 8 + x 12 = y 0 + y 4 + y 8 + y 12
  c1 : x 1 + x 5 + x 9 + x 13 = y 1 + y 5 + y 9 + y 13
  c2 : x 2 + x 6 + x 10 + x 14 = y 2 + y 6 + y 10 + y 14
  c3 : x 3 + x 7 + x 11 + x 15 = y 3 + y 7 + y 11 + y 15
def fr (x : Nat → Int) (k : Nat) : Bool := decide (0 < x k) && decide (x k < 10)
theorem okr_of {x : Nat → Int} {i j k l : Nat} (hi : 0 ≤ x i ∧ x i ≤ 10) (hj : 0 ≤ x j ∧ x j ≤ 10) (hk : 0 ≤ x k ∧ x k ≤ 10) (hl : 0 ≤ x l ∧ x l ≤ 10) (h : (x i + x j + x k + x l) % 10 = 0) : okr (fr x i) (fr x j) (fr x k) (fr x l) = true := by
  have e : ∀ q, 0 ≤ x q ∧ x q ≤ 10 → (fr x q = false ↔ (x q = 0 ∨ x q = 10)) := fun q hq => by
    unfold fr; rw [Bool.and_eq_false_iff]; simp; omega
  have e' : ∀ q, fr x q = true → (0 < x q ∧ x q < 10) := fun q hq => by
    unfold fr at hq; rw [Bool.and_eq_true] at hq; simpa using hq
  unfold okr
  split
  · rename_i a b c d; have a := e' _ a; have b := (e _ hj).1 b; have c := (e _ hk).1 c; have d := (e _ hl).1 d; omega
  · rename_i a b c d; have a := (e _ hi).1 a; have b := e' _ b; have c := (e _ hk).1 c; have d := (e _ hl).1 d; omega
  · rename_i a b c d; have a := (e _ hi).1 a; have b := (e _ hj).1 b; have c := e' _ c; have d := (e _ hl).1 d; omega
  · rename_i a b c d; have a := (e _ hi).1 a; have b := (e _ hj).1 b; have c := (e _ hk).1 c; have d := e' _ d; omega
  · rfl
theorem dir_of {x : Nat → Int} (h : Bal x) {k : Nat} (hk : k < 16) (hf : fr x k = true) : ∃ s ∈ cyc, ∀ q, q < 16 → d4 s q = 0 ∨ ((d4 s q = 1 ∨ d4 s q = -1) ∧ 0 < x q ∧ x q < 10) := by
  have h0 := B4_all chk_true (fr x 0) (fr x 1) (fr x 2) (fr x 3)
  rw [okr_of (h.bd 0 (by decide)) (h.bd 1 (by decide)) (h.bd 2 (by decide)) (h.bd 3 (by decide)) h.r0, Bool.not_true, Bool.false_or] at h0
  have h1 := B4_all h0 (fr x 4) (fr x 5) (fr x 6) (fr x 7)
  rw [okr_of (h.bd 4 (by decide)) (h.bd 5 (by decide)) (h.bd 6 (by decide)) (h.bd 7 (by decide)) h.r1, Bool.not_true, Bool.false_or] at h1
  have h2 := B4_all h1 (fr x 8) (fr x 9) (fr x 10) (fr x 11)
  rw [okr_of (h.bd 8 (by decide)) (h.bd 9 (by decide)) (h.bd 10 (by decide)) (h.bd 11 (by decide)) h.r2, Bool.not_true, Bool.false_or] at h2
  have h3 := B4_all h2 (fr x 12) (fr x 13) (fr x 14) (fr x 15)
  rw [okr_of (h.bd 12 (by decide)) (h.bd 13 (by decide)) (h.bd 14 (by decide)) (h.bd 15 (by decide)) h.r3, Bool.not_true, Bool.false_or,
    okr_of (h.bd 0 (by decide)) (h.bd 4 (by decide)) (h.bd 8 (by decide)) (h.bd 12 (by decide)) h.c0, Bool.not_true, Bool.false_or,
    okr_of (h.bd 1 (by decide)) (h.bd 5 (by decide)) (h.bd 9 (by decide)) (h.bd 13 (by decide)) h.c1, Bool.not_true, Bool.false_or,
    okr_of (h.bd 2 (by decide)) (h.bd 6 (by decide)) (h.bd 10 (by decide)) (h.bd 14 (by decide)) h.c2, Bool.not_true, Bool.false_or,
    okr_of (h.bd 3 (by decide)) (h.bd 7 (by decide)) (h.bd 11 (by decide)) (h.bd 15 (by decide)) h.c3, Bool.not_true, Bool.false_or] at h3
  have hn : (fr x 0 || fr x 1 || fr x 2 || fr x 3 || fr x 4 || fr x 5 || fr x 6 || fr x 7 || fr x 8 || fr x 9 || fr x 10 || fr x 11 || fr x 12 || fr x 13 || fr x 14 || fr x 15) = true := by
    clear h0 h1 h2 h3
    refine all16 (P := fun k => fr x k = true → (fr x 0 || fr x 1 || fr x 2 || fr x 3 || fr x 4 || fr x 5 || fr x 6 || fr x 7 || fr x 8 || fr x 9 || fr x 10 || fr x 11 || fr x 12 || fr x 13 || fr x 14 || fr x 15) = true) ?_ ?_ ?_ ?_ ?_ ?_ ?_ ?_ ?_ ?_ ?_ ?_ ?_ ?_ ?_ ?_ k hk hf
    all_goals (clear hf hk; intro hf; rw [hf]; simp only [Bool.true_or, Bool.or_true])
  rw [hn, Bool.not_true, Bool.false_or] at h3
  unfold find at h3
  obtain ⟨s, hs, hle⟩ := List.any_eq_true.1 h3
  refine ⟨s, hs, fun q hq => ?_⟩
  have hq' := le_at hle q
  have hl : List.getD [fr x 0, fr x 1, fr x 2, fr x 3, fr x 4, fr x 5, fr x 6, fr x 7, fr x 8, fr x 9, fr x 10, fr x 11, fr x 12, fr x 13, fr x 14, fr x 15] q false = fr x q := by
    revert hq'
    clear hle hs h0 h1 h2 h3
    revert q
    refine all16 ?_ ?_ ?_ ?_ ?_ ?_ ?_ ?_ ?_ ?_ ?_ ?_ ?_ ?_ ?_ ?_
    all_goals (intro _; rfl)
  rw [hl] at hq'
  unfold d4
  cases hv : s.getD q none with
  | none => exact .inl rfl
  | some v =>
    have := hq' (by rw [hv]; rfl)
    unfold fr at this
    rw [Bool.and_eq_true] at this
    refine .inr ⟨by cases v <;> simp [val], by simpa using this⟩
def mv (x : Nat → Int) (s : List (Option Bool)) (e : Int) (k : Nat) : Int := x k + e * d4 s k
theorem lin4 (a b c d e k l m n : Int) (h : k + l + m + n = 0) : a + e * k + (b + e * l) + (c + e * m) + (d + e * n) = a + b + c + d := by
  have : e * (k + l + m + n) = 0 := by rw [h, Int.mul_zero]
  rw [Int.mul_add, Int.mul_add, Int.mul_add] at this
  omega
theorem mv_wt (x : Nat → Int) (s : List (Option Bool)) {e : Int} (he : e = 1 ∨ e = -1) : wt (mv x s e) = wt x + e * wt (d4 s) := by
  rcases he with rfl | rfl <;> (unfold wt mv; omega)
theorem mv_ok {x : Nat → Int} (h : Bal x) {s : List (Option Bool)} (hs : s ∈ cyc) (hd : ∀ q, q < 16 → d4 s q = 0 ∨ ((d4 s q = 1 ∨ d4 s q = -1) ∧ 0 < x q ∧ x q < 10)) {e : Int} (he : e = 1 ∨ e = -1) :
    Bal (mv x s e) ∧ Sums x (mv x s e) ∧ (∀ k, k < 16 → (x k = 0 ∨ x k = 10) → mv x s e k = x k) := by
  have ho := List.all_eq_true.1 cyc_ok s hs
  simp only [dirOk, Bool.and_eq_true, beq_iff_eq] at ho
  obtain ⟨⟨⟨⟨⟨⟨⟨⟨⟨_, r0⟩, r1⟩, r2⟩, r3⟩, c0⟩, c1⟩, c2⟩, c3⟩, _⟩ := ho
  have S : Sums x (mv x s e) := ⟨(lin4 _ _ _ _ e _ _ _ _ r0).symm, (lin4 _ _ _ _ e _ _ _ _ r1).symm, (lin4 _ _ _ _ e _ _ _ _ r2).symm, (lin4 _ _ _ _ e _ _ _ _ r3).symm,
    (lin4 _ _ _ _ e _ _ _ _ c0).symm, (lin4 _ _ _ _ e _ _ _ _ c1).symm, (lin4 _ _ _ _ e _ _ _ _ c2).symm, (lin4 _ _ _ _ e _ _ _ _ c3).symm⟩
  clear r0 r1 r2 r3 c0 c1 c2 c3
  obtain ⟨b, R0, R1, R2, R3, C0, C1, C2, C3⟩ := h
  refine ⟨⟨fun k hk => ?_, S.r0 ▸ R0, S.r1 ▸ R1, S.r2 ▸ R2, S.r3 ▸ R3, S.c0 ▸ C0, S.c1 ▸ C1, S.c2 ▸ C2, S.c3 ▸ C3⟩, S, fun k hk h1 => ?_⟩
  · clear R0 R1 R2 R3 C0 C1 C2 C3 S
    have h1 := hd k hk; have h2 := b k hk
    unfold mv
    rcases he with rfl | rfl <;> omega
  · clear R0 R1 R2 R3 C0 C1 C2 C3 S
    have h2 := hd k hk
    unfold mv
    rcases he with rfl | rfl <;> omega
theorem Sums.trans {x y z : Nat → Int} (h : Sums x y) (h' : Sums y z) : Sums x z :=
  ⟨h.r0.trans h'.r0, h.r1.trans h'.r1, h.r2.trans h'.r2, h.r3.trans h'.r3, h.c0.trans h'.c0, h.c1.trans h'.c1, h.c2.trans h'.c2, h.c3.trans h'.c3⟩
theorem wt_le {x : Nat → Int} (h : Bal x) : wt x ≤ 655350 := by
  have := h.bd
  have h0 := (this 0 (by decide)).2; have h1 := (this 1 (by decide)).2; have h2 := (this 2 (by decide)).2; have h3 := (this 3 (by decide)).2
  have h4 := (this 4 (by decide)).2; have h5 := (this 5 (by decide)).2; have h6 := (this 6 (by decide)).2; have h7 := (this 7 (by decide)).2
  have h8 := (this 8 (by decide)).2; have h9 := (this 9 (by decide)).2; have h10 := (this 10 (by decide)).2; have h11 := (this 11 (by decide)).2
  have h12 := (this 12 (by decide)).2; have h13 := (this 13 (by decide)).2; have h14 := (this 14 (by decide)).2; have h15 := (this 15 (by decide)).2
  clear this h
  unfold wt
  omega
theorem rounds : ∀ (n : Nat) (x : Nat → Int), Bal x → 655350 - wt x ≤ n → ∃ y : Nat → Int, (∀ k, k < 16 → (y k = 0 ∨ y k = 10) ∧ ((x k = 0 ∨ x k = 10) → y k = x k)) ∧ Sums x y
  | n, x, h, hn => by
    by_cases hf : ∃ k, k < 16 ∧ fr x k = true
    · obtain ⟨k, hk, hf⟩ := hf
      obtain ⟨s, hs, hd⟩ := dir_of h hk hf
      have ho := List.all_eq_true.1 cyc_ok s hs
      simp only [dirOk, Bool.and_eq_true, Bool.not_eq_true', beq_eq_false_iff_ne] at ho
      have hw : wt (d4 s) ≠ 0 := ho.2
      obtain ⟨e, he, hpos⟩ : ∃ e : Int, (e = 1 ∨ e = -1) ∧ 1 ≤ e * wt (d4 s) := by
        by_cases hp : 0 < wt (d4 s)
        · exact ⟨1, .inl rfl, by omega⟩
        · exact ⟨-1, .inr rfl, by omega⟩
      obtain ⟨h1, h2, h3⟩ := mv_ok h hs hd he
      have h4 := mv_wt x s he
      have h5 := wt_le h1
      match n, hn with
      | 0, hn => exfalso; omega
      | n + 1, hn =>
        obtain ⟨y, hy, hS⟩ := rounds n (mv x s e) h1 (by omega)
        exact ⟨y, fun k hk => ⟨(hy k hk).1, fun h0 => by have := h3 k hk h0; rw [← this]; exact (hy k hk).2 (by rw [this]; exact h0)⟩, h2.trans hS⟩
    · refine ⟨x, fun k hk => ⟨?_, fun _ => rfl⟩, ⟨rfl, rfl, rfl, rfl, rfl, rfl, rfl, rfl⟩⟩
      have hb := h.bd k hk
      cases hk' : fr x k
      · unfold fr at hk'
        rw [Bool.and_eq_false_iff] at hk'
        simp at hk'
        omega
      · exact absurd ⟨k, hk, hk'⟩ hf
end RC
/-- a number is rounded to another -/
def Rd (x y : Int) : Prop := y % 10 = 0 ∧ x - 10 < y ∧ y < x + 10
namespace RC
abbrev Y (x y : Int) : Prop := (y = 0 ∨ y = 10) ∧ ((x = 0 ∨ x = 10) → y = x)
theorem bord (a b c : Int) : (a % 10 + b % 10 + c % 10 + -(a + b + c) % 10) % 10 = 0 := by omega
theorem corner (s t u : Int) : (-s % 10 + -t % 10 + -u % 10 + (s + t + u) % 10) % 10 = 0 := by omega
theorem cellR {a y : Int} (h : Y (a % 10) y) : Rd a (a - a % 10 + y) := by unfold Rd; omega
theorem lineR {a b c y0 y1 y2 y3 : Int} (h0 : y0 = 0 ∨ y0 = 10) (h1 : y1 = 0 ∨ y1 = 10) (h2 : y2 = 0 ∨ y2 = 10) (h3 : Y (-(a + b + c) % 10) y3) (hs : a % 10 + b % 10 + c % 10 + -(a + b + c) % 10 = y0 + y1 + y2 + y3) :
    Rd (a + b + c) ((a - a % 10 + y0) + (b - b % 10 + y1) + (c - c % 10 + y2)) := by
  obtain ⟨p, hp⟩ : ∃ p, p = -(a + b + c) % 10 := ⟨_, rfl⟩
  rw [← hp] at h3 hs
  have p0 : 0 ≤ p ∧ p < 10 := by omega
  have e : (a - a % 10 + y0) + (b - b % 10 + y1) + (c - c % 10 + y2) = (a + b + c) + p - y3 := by omega
  refine ⟨by omega, ?_, ?_⟩
  · rw [e]; clear e hs hp h0 h1 h2; omega
  · rw [e]; clear e hs hp h0 h1 h2; omega
theorem totR {s t u s' t' u' p q r y3 y7 y11 z y15 : Int} (e1 : s' = s + p - y3) (e2 : t' = t + q - y7) (e3 : u' = u + r - y11) (h1 : s' % 10 = 0) (h2 : t' % 10 = 0) (h3 : u' % 10 = 0) (hz : 0 ≤ z ∧ z < 10) (hy : Y z y15) (hc : p + q + r + z = y3 + y7 + y11 + y15) :
    Rd (s + t + u) (s' + t' + u') := by
  unfold Rd; omega
end RC
theorem round33 (a b c d e f g h i : Int) : ∃ a' b' c' d' e' f' g' h' i' : Int, (Rd a a' ∧ Rd b b' ∧ Rd c c' ∧ Rd d d' ∧ Rd e e' ∧ Rd f f' ∧ Rd g g' ∧ Rd h h' ∧ Rd i i') ∧
    (Rd (a + b + c) (a' + b' + c') ∧ Rd (d + e + f) (d' + e' + f') ∧ Rd (g + h + i) (g' + h' + i')) ∧ (Rd (a + d + g) (a' + d' + g') ∧ Rd (b + e + h) (b' + e' + h') ∧ Rd (c + f + i) (c' + f' + i')) ∧
    Rd (a + b + c + (d + e + f) + (g + h + i)) (a' + b' + c' + (d' + e' + f') + (g' + h' + i')) := by
  have hz : a + b + c + (d + e + f) + (g + h + i) = a + d + g + (b + e + h) + (c + f + i) := by omega
  have X : ∃ x : Nat → Int, RC.Bal x ∧ (x 0 = a % 10 ∧ x 1 = b % 10 ∧ x 2 = c % 10 ∧ x 3 = -(a + b + c) % 10) ∧ (x 4 = d % 10 ∧ x 5 = e % 10 ∧ x 6 = f % 10 ∧ x 7 = -(d + e + f) % 10) ∧
      (x 8 = g % 10 ∧ x 9 = h % 10 ∧ x 10 = i % 10 ∧ x 11 = -(g + h + i) % 10) ∧ (x 12 = -(a + d + g) % 10 ∧ x 13 = -(b + e + h) % 10 ∧ x 14 = -(c + f + i) % 10 ∧ x 15 = (a + b + c + (d + e + f) + (g + h + i)) % 10) := by
    refine ⟨fun k => [a % 10, b % 10, c % 10, -(a + b + c) % 10, d % 10, e % 10, f % 10, -(d + e + f) % 10, g % 10, h % 10, i % 10, -(g + h + i) % 10, -(a + d + g) % 10, -(b + e + h) % 10, -(c + f + i) % 10, (a + b + c + (d + e + f) + (g + h + i)) % 10].getD k 0, ⟨?_, RC.bord a b c, RC.bord d e f, RC.bord g h i, ?_, RC.bord a d g, RC.bord b e h, RC.bord c f i, RC.corner (a + b + c) (d + e + f) (g + h + i)⟩,
      ⟨rfl, rfl, rfl, rfl⟩, ⟨rfl, rfl, rfl, rfl⟩, ⟨rfl, rfl, rfl, rfl⟩, ⟨rfl, rfl, rfl, rfl⟩⟩
    · have m10 : ∀ q : Int, 0 ≤ q % 10 ∧ q % 10 ≤ 10 := fun q => by omega
      exact RC.all16 (P := fun k => 0 ≤ List.getD _ k (0 : Int) ∧ List.getD _ k (0 : Int) ≤ 10) (m10 _) (m10 _) (m10 _) (m10 _) (m10 _) (m10 _) (m10 _) (m10 _) (m10 _) (m10 _) (m10 _) (m10 _) (m10 _) (m10 _) (m10 _) (m10 _)
    · show (-(a + d + g) % 10 + -(b + e + h) % 10 + -(c + f + i) % 10 + (a + b + c + (d + e + f) + (g + h + i)) % 10) % 10 = 0
      rw [hz]; exact RC.corner (a + d + g) (b + e + h) (c + f + i)
  obtain ⟨x, B, ⟨x0, x1, x2, x3⟩, ⟨x4, x5, x6, x7⟩, ⟨x8, x9, x10, x11⟩, ⟨x12, x13, x14, x15⟩⟩ := X
  obtain ⟨y, hy, S⟩ := RC.rounds (655350 - RC.wt x).toNat x B (by clear hz x0 x1 x2 x3 x4 x5 x6 x7 x8 x9 x10 x11 x12 x13 x14 x15 B; omega)
  have y0 := hy 0 (by decide); have y1 := hy 1 (by decide); have y2 := hy 2 (by decide); have y3 := hy 3 (by decide)
  have y4 := hy 4 (by decide); have y5 := hy 5 (by decide); have y6 := hy 6 (by decide); have y7 := hy 7 (by decide)
  have y8 := hy 8 (by decide); have y9 := hy 9 (by decide); have y10 := hy 10 (by decide); have y11 := hy 11 (by decide)
  have y12 := hy 12 (by decide); have y13 := hy 13 (by decide); have y14 := hy 14 (by decide); have y15 := hy 15 (by decide)
  obtain ⟨r0, r1, r2, r3, c0, c1, c2, c3⟩ := S
  clear hy B
  rw [x0] at y0; rw [x1] at y1; rw [x2] at y2; rw [x3] at y3; rw [x4] at y4; rw [x5] at y5; rw [x6] at y6; rw [x7] at y7
  rw [x8] at y8; rw [x9] at y9; rw [x10] at y10; rw [x11] at y11; rw [x12] at y12; rw [x13] at y13; rw [x14] at y14; rw [x15] at y15
  rw [x0, x1, x2, x3] at r0; rw [x4, x5, x6, x7] at r1; rw [x8, x9, x10, x11] at r2
  rw [x0, x4, x8, x12] at c0; rw [x1, x5, x9, x13] at c1; rw [x2, x6, x10, x14] at c2; rw [x3, x7, x11, x15] at c3
  clear x0 x1 x2 x3 x4 x5 x6 x7 x8 x9 x10 x11 x12 x13 x14 x15 r3 hz
  have R0 := RC.lineR y0.1 y1.1 y2.1 y3 r0
  have R1 := RC.lineR y4.1 y5.1 y6.1 y7 r1
  have R2 := RC.lineR y8.1 y9.1 y10.1 y11 r2
  refine ⟨a - a % 10 + y 0, b - b % 10 + y 1, c - c % 10 + y 2, d - d % 10 + y 4, e - e % 10 + y 5, f - f % 10 + y 6, g - g % 10 + y 8, h - h % 10 + y 9, i - i % 10 + y 10,
    ⟨RC.cellR y0, RC.cellR y1, RC.cellR y2, RC.cellR y4, RC.cellR y5, RC.cellR y6, RC.cellR y8, RC.cellR y9, RC.cellR y10⟩, ⟨R0, R1, R2⟩,
    ⟨RC.lineR y0.1 y4.1 y8.1 y12 c0, RC.lineR y1.1 y5.1 y9.1 y13 c1, RC.lineR y2.1 y6.1 y10.1 y14 c2⟩, RC.totR ?_ ?_ ?_ R0.1 R1.1 R2.1 ?_ y15 c3⟩
  · clear r1 r2 c0 c1 c2 c3 R0 R1 R2 y0 y1 y2 y3 y4 y5 y6 y7 y8 y9 y10 y11 y12 y13 y14 y15; omega
  · clear r0 r2 c0 c1 c2 c3 R0 R1 R2 y0 y1 y2 y3 y4 y5 y6 y7 y8 y9 y10 y11 y12 y13 y14 y15; omega
  · clear r0 r1 c0 c1 c2 c3 R0 R1 R2 y0 y1 y2 y3 y4 y5 y6 y7 y8 y9 y10 y11 y12 y13 y14 y15; omega
  · clear r0 r1 r2 c0 c1 c2 c3 R0 R1 R2 y0 y1 y2 y3 y4 y5 y6 y7 y8 y9 y10 y11 y12 y13 y14 y15; omega
end Go.Proofs.Ytefppihanblhmaa
