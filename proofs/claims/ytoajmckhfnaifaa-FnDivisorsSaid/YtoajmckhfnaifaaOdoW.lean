/- The program's iterator over all lists keeps its word (RFC.tpl). -/
import Derived.Test.YtoajmckhfnaifaaOdoI
import Derived.Test.YtoajmckhfnaifaaRepeat
import Derived.Test.YtoajmckhfnaifaaPair
import Derived.OwnWalkIn
import Derived.TacticsInMore
import Derived.Deep.DeepCutAuto
import Derived.Deep.LoopGhost
namespace Go.Proofs.Ytoajmckhfnaifaa
set_option linter.unusedVariables false
open Go.RowKit

theorem onlyDrew {lo hi : Nat} (w : World) (m : Nat) : Only lo hi w (w.drewN m) := Only.of_below (B := w.heap.size) (below_of_drewN rfl) (Nat.le_refl _)
def afterN (h : Nat) (l : List Nat) : List (List Nat) := match nextN h l with | none => [] | some l' => fromN h l'
theorem fromN_after (h : Nat) (l : List Nat) : fromN h l = l :: afterN h l := fromN_step h l
theorem afterN_none {h : Nat} (z : Nat) : afterN h (List.replicate z h) = [] := by unfold afterN; rw [nextN_none]
theorem afterN_at {h x : Nat} (z : Nat) (hx : x < h) (a : List Nat) : afterN h (a ++ x :: List.replicate z h) = fromN h (a ++ (x + 1) :: List.replicate z 0) := by unfold afterN; rw [nextN_at z hx a]
set_option maxRecDepth 100000 in
set_option maxHeartbeats 4000000 in
theorem lists_seq (n h : Nat) (n1 : 1 ≤ n) (n3 : n ≤ 3) (h20 : h ≤ 20) (w : World) (bl bn bh k0 : Nat) (hl : w.cell? ⟨bl, 0, none⟩ = some (.int .i64 0)) (hn : w.cell? ⟨bn, 0, none⟩ = some (.int .i64 (n : Int))) (hh : w.cell? ⟨bh, 0, none⟩ = some (.int .i64 (h : Int)))
    (hk0 : k0 < w.heap.size) (e1 : bl ≠ k0) (e2 : bn ≠ k0) (e3 : bh ≠ k0) :
    SeqC k0 Try.prog 40 #[.pointer (some ⟨bl, 0, none⟩), .pointer (some ⟨bn, 0, none⟩), .pointer (some ⟨bh, 0, none⟩)] (fun x : Value × List Nat => #[x.1]) (toldL n) (fun xs => xs.map (·.2) = upN h n) (fun _ => True) 10000 w := by
  intro l J Jx W hbW hJ hJx hY h0
  have cl := cell_carry hbW hl
  have cn := cell_carry hbW hn
  have ch := cell_carry hbW hh
  have bl1 := cell_lt hl
  have bn1 := cell_lt hn
  have bh1 := cell_lt hh
  have hsz := hbW.size
  have ha := (Below.refl W.heap.size W).alloc (Nat.le_refl _) (.cells #[.int .i64 0] 3)
  have cnA := cell_carry ha cn
  have c0 := new_cell W (.int .i64 0) 3 rfl
  have hz := World.size_alloc W (.cells #[.int .i64 0] 3)
  have K := Lib.hid (repeat1_any W.heap.size 0 1 0 n (W.alloc (.cells #[.int .i64 0] 3)) c0 n1 (by omega))
  go_enter Try.func40, Try.ntmps40
  go_wp2_with fail
  refine K.out.mono ?_
  rintro e W2 ⟨rfl, o2, hb2⟩
  rw [hz] at o2 ⊢
  have hB2 := ha.trans (hb2.mono (by omega))
  have hJ2 := hJ _ _ _ h0 hB2
  have cl2 := cell_carry hB2 cl
  have cn2 := cell_carry hB2 cn
  have ch2 := cell_carry hB2 ch
  have hs2 := o2.num.2.1
  have hU : Hid (upN h n = fromN h (List.replicate n 0)) := upN_from h n
  clear K ha c0 hz hb2 cnA cl cn ch h0 hl hn hh
  obtain ⟨g, hg⟩ : ∃ g, W.heap.size + 1 = g := ⟨_, rfl⟩
  rw [hg] at o2 hs2 ⊢
  have hk0g : k0 < g := by omega
  have hnn : (n : Int) ≤ 3 := by omega
  go_wp2
  go_loopg [6] ((h + 1) ^ n) (fun gk _ wr => ∃ (l' : List Nat) (pre : List (Value × List Nat)), gk = (fromN h l').length ∧ l'.length = n ∧ (∀ x ∈ l', x ≤ h) ∧ Hid (pre.map (·.2) ++ fromN h l' = upN h n) ∧ OwnI wr g (g + 1) (.slice (some ⟨g, 0, none⟩) n n) (toI l') ∧ J pre wr ∧
      wr.cell? ⟨bl, 0, none⟩ = some (.int .i64 0) ∧ wr.cell? ⟨bn, 0, none⟩ = some (.int .i64 (n : Int)) ∧ wr.cell? ⟨bh, 0, none⟩ = some (.int .i64 (h : Int)))
  case atStart =>
    refine ⟨List.replicate n 0, [], by rw [← hU.out, upN_len], by simp, fun x hx => by rw [List.eq_of_mem_replicate hx]; omega, by show _ = _; simpa using hU.out.symm, ?_, hJ2, cl2, cn2, ch2⟩
    rw [show toI (List.replicate n 0) = List.replicate n (0 : Int) from by simp [toI]]; exact o2
  case round =>
    obtain ⟨l', pre, hgk, hln, hlh, hpre, own, hj, cl, cn, ch⟩ := hrel
    obtain ⟨g0, rfl⟩ : ∃ g0, g0 = gk := ⟨_, rfl⟩
    have HGK := Lib.hid hgk
    have HLN := Lib.hid hln
    have HLH := Lib.hid hlh
    have gw := own.num.2.1
    have hlen : pre.length < 10000 := by
      have := congrArg List.length hpre.out
      rw [List.length_append, List.length_map, upN_len] at this
      have h1 : 0 < (fromN h l').length := by rw [fromN_step]; simp
      have h2 : (h + 1) ^ n ≤ 21 ^ n := Nat.pow_le_pow_left (by omega) n
      have h3 : (21 : Nat) ^ n ≤ 21 ^ 3 := Nat.pow_le_pow_right (by omega) n3
      omega
    have htold : toldL n (.slice (some ⟨g, 0, none⟩) n n, l') wr := ⟨_, _, rfl, own.at_, fun y hy => Nat.le_trans (hlh y hy) h20⟩
    clear hgk hln hlh hJ2 o2 cl2 cn2 ch2
    obtain ⟨wo, rfl⟩ : ∃ wo, wo = wr := ⟨_, rfl⟩
    go_upto_region 1 with fail
    refine (wpIn_wide (n := 5)).1 ?_
    obtain ⟨fn, tmps, assign, body, hy, hR⟩ := hY (5 - 1) pre (.slice (some ⟨g, 0, none⟩) n n, l') wo hj htold hlen
    gi_wp2
    refine hR.mono ?_
    rintro e W4 (⟨rfl, hj4, hg4⟩ | ⟨rfl, hx4⟩)
    · have on4 : Only k0 (k0 + 1) wo W4 := Only.of_grown hg4 (fun k e => by cases e; omega)
      have own4 := own.only on4 (.inr (by omega))
      have cl4 := on4.cell cl (by show ¬ (k0 ≤ bl ∧ bl < k0 + 1); omega)
      have cn4 := on4.cell cn (by show ¬ (k0 ≤ bn ∧ bn < k0 + 1); omega)
      have ch4 := on4.cell ch (by show ¬ (k0 ≤ bh ∧ bh < k0 + 1); omega)
      have gw4 := own4.num.2.1
      have HP4 : Hid ((pre ++ [((Value.slice (some ⟨g, 0, none⟩) n n), l')]).map (·.2) ++ afterN h l' = upN h n) := by
        show _ = _
        rw [List.map_append, List.append_assoc, ← hpre.out]
        conv => rhs; rw [fromN_after]
        rfl
      have HGK4 : Hid (g0 = 1 + (afterN h l').length) := by
        show _ = _
        rw [HGK.out]
        conv => lhs; rw [fromN_after]
        simp [Nat.add_comm]
      generalize pre ++ [((Value.slice (some ⟨g, 0, none⟩) n n), l')] = pre2 at *
      clear own cl cn ch hg4 on4 htold hR hj hy gw hlen hpre
      gi_wp2
      go_wp2
      go_loopg [6] n (fun gk s6 wr => ∃ (a : List Nat) (z : Nat), gk = a.length ∧ a.length + z = n ∧ Hid (l' = a ++ List.replicate z h) ∧ (∃ at_ : Int, at_ = (a.length : Int) - 1 ∧ s6 = .int .i64 at_) ∧ OwnI wr g (g + 1) (.slice (some ⟨g, 0, none⟩) n n) (toI (a ++ List.replicate z 0)) ∧ J pre2 wr ∧
        wr.cell? ⟨bl, 0, none⟩ = some (.int .i64 0) ∧ wr.cell? ⟨bn, 0, none⟩ = some (.int .i64 (n : Int)) ∧ wr.cell? ⟨bh, 0, none⟩ = some (.int .i64 (h : Int)))
      case atStart => exact ⟨l', 0, HLN.out.symm, by have := HLN.out; omega, by show _ = _; simp, ⟨(n : Int) - 1, by rw [HLN.out], rfl⟩, by simpa using own4, hj4, cl4, cn4, ch4⟩
      case round =>
        obtain ⟨a, z, hga, haz, hl, ⟨at_, hat, rfl⟩, own, hj, cl, cn, ch⟩ := hrel
        clear own4 hj4 cl4 cn4 ch4
        have gw := own.num.2.1
        have HGA := Lib.hid hga
        have HAZ := Lib.hid haz
        clear hga haz
        have hcon : a = [] ∨ ∃ a' x, a = a' ++ [x] := by
          rcases List.eq_nil_or_concat a with e | ⟨a', x, e⟩
          · exact .inl e
          · exact .inr ⟨a', x, by rw [e]; simp⟩
        rcases hcon with rfl | ⟨a', x, rfl⟩
        · obtain rfl : at_ = -1 := by simpa using hat
          clear hat
          have t0 : decide ((0 : Int) ≤ -1) = false := rfl
          have HE : Hid (pre2.map (·.2) = upN h n) := by
            show _ = _
            have e := HP4.out
            rw [show l' = List.replicate z h from by simpa using hl.out, afterN_none, List.append_nil] at e
            exact e
          go_wp2
          go_quiet (fail)
          go_wp2
          refine bodyPost_ret (results_none rfl _ _ _) rfl ?_
          exact ⟨⟨_, rfl⟩, .inl ⟨pre2, HE.out, hJ _ _ _ hj (below_of_drewN rfl)⟩⟩
        · have hal : (a' ++ [x]).length = a'.length + 1 := by simp
          rw [hal] at hat
          have HAZ2 : Hid (a'.length + 1 + z = n) := by show _ = _; rw [← hal]; exact HAZ.out
          have HGA2 : Hid (gk = a'.length + 1) := by show _ = _; rw [← hal]; exact HGA.out
          have HOW : Hid (toI (a' ++ [x] ++ List.replicate z 0) = toI a' ++ (x : Int) :: toI (List.replicate z 0)) := by show _ = _; simp [toI]
          rw [HOW.out] at own
          obtain ⟨p, hp⟩ : ∃ p, a'.length = p := ⟨_, rfl⟩
          rw [hp] at hat HAZ2 HGA2
          obtain rfl : at_ = (p : Int) := by omega
          have HPL := Lib.hid hp
          have hpn : p < n := by have := HAZ2.out; omega
          have hx : x ≤ h := HLH.out x (by rw [hl.out]; simp)
          have cp := own.cellAt p hpn
          have hix : ix (toI a' ++ (x : Int) :: toI (List.replicate z 0)) p = (x : Int) := by
            unfold ix
            simp only [List.getD]
            rw [List.getElem?_append_right (by rw [toI_len]; omega), toI_len, hp, Nat.sub_self]
            rfl
          rw [hix] at cp
          have t0 : decide ((0 : Int) ≤ (p : Int)) = true := decide_eq_true (by omega)
          have hpn' : (p : Int) < (n : Int) := by omega
          have hp0 : (0 : Int) ≤ (p : Int) := by omega
          have HSET : ∀ y : Int, (toI a' ++ (x : Int) :: toI (List.replicate z 0)).set p y = toI a' ++ y :: toI (List.replicate z 0) := fun y => by
            rw [List.set_append_right _ _ (by rw [toI_len]; omega), toI_len, hp, Nat.sub_self]
            rfl
          have HS := Lib.hid HSET
          have fv := own.frozenAt p
          clear hix hp hat hal HGA HAZ HSET
          by_cases hxh : x = h
          · subst hxh
            have t1 : ((x : Int) == (x : Int)) = true := by simp
            have HA2 : Hid (l' = a' ++ List.replicate (z + 1) x) := by show _ = _; rw [hl.out]; simp [List.replicate_succ]
            go_wp2
            go_quiet (fail)
            obtain ⟨o7, n7⟩ := (own.drewN nq).stored p 0
            rw [HS.out] at o7
            have on7 := (onlyDrew (lo := g) (hi := g + 1) wr nq).trans n7
            have cl7 := on7.cell cl (by show ¬ (g ≤ bl ∧ bl < g + 1); omega)
            have cn7 := on7.cell cn (by show ¬ (g ≤ bn ∧ bn < g + 1); omega)
            have ch7 := on7.cell ch (by show ¬ (g ≤ bh ∧ bh < g + 1); omega)
            have j7 := hJ _ _ _ hj (on7.toBelow (B := W.heap.size) (by omega) (by omega))
            have fv7 : (wr.drewN nq).frozen? ⟨g, p, none⟩ = false := fv
            have cl1 : (wr.drewN nq).cell? ⟨bl, 0, none⟩ = some (.int .i64 0) := cl
            have cp1 : (wr.drewN nq).cell? ⟨g, p, none⟩ = some (.int .i64 (x : Int)) := cp
            clear cl cn ch own hj fv cp n7 on7
            generalize wr.drewN nq = wr1 at *
            go_wp2
            have q1 : (p : Int) - 1 = ((p : Nat) : Int) - 1 := rfl
            go_roundg p
            case rel => exact ⟨a', z + 1, HPL.out.symm, by have := HAZ2.out; have := HPL.out; omega, HA2, ⟨_, by rw [HPL.out], rfl⟩, by rw [show toI (a' ++ List.replicate (z + 1) 0) = toI a' ++ (0 : Int) :: toI (List.replicate z 0) from by simp [toI, List.replicate_succ]]; exact o7, j7, cl7, cn7, ch7⟩
            case measure => have := HGA2.out; omega
          · have t1 : ((x : Int) == (h : Int)) = false := by rw [beq_eq_false_iff_ne]; omega
            have hxl : x < h := by omega
            have HNX : Hid (afterN h l' = fromN h (a' ++ (x + 1) :: List.replicate z 0)) := by
              show _ = _
              rw [hl.out, List.append_assoc]
              exact afterN_at z hxl a'
            clear hxh
            go_wp2
            go_quiet (fail)
            obtain ⟨o7, n7⟩ := (own.drewN nq).stored p ((x : Int) + 1)
            rw [HS.out] at o7
            have on7 := (onlyDrew (lo := g) (hi := g + 1) wr nq).trans n7
            have cl7 := on7.cell cl (by show ¬ (g ≤ bl ∧ bl < g + 1); omega)
            have cn7 := on7.cell cn (by show ¬ (g ≤ bn ∧ bn < g + 1); omega)
            have ch7 := on7.cell ch (by show ¬ (g ≤ bh ∧ bh < g + 1); omega)
            have j7 := hJ _ _ _ hj (on7.toBelow (B := W.heap.size) (by omega) (by omega))
            have fv7 : (wr.drewN nq).frozen? ⟨g, p, none⟩ = false := fv
            have cp1 : (wr.drewN nq).cell? ⟨g, p, none⟩ = some (.int .i64 (x : Int)) := cp
            clear cl cn ch own hj fv cp n7 on7
            generalize wr.drewN nq = wr1 at *
            go_wp2
            go_roundg ((fromN h (a' ++ (x + 1) :: List.replicate z 0)).length)
            case rel => exact ⟨a' ++ (x + 1) :: List.replicate z 0, pre2, rfl, by simp; have := HAZ2.out; have := HPL.out; omega, fun y hy => by
                rcases List.mem_append.1 hy with hy | hy
                · exact HLH.out y (by rw [hl.out]; simp [hy])
                · rcases List.mem_cons.1 hy with rfl | hy
                  · omega
                  · rw [List.eq_of_mem_replicate hy]; omega, by show _ = _; rw [← HNX.out]; exact HP4.out, by rw [show toI (a' ++ (x + 1) :: List.replicate z 0) = toI a' ++ ((x : Int) + 1) :: toI (List.replicate z 0) from by simp [toI]]; exact o7, j7, cl7, cn7, ch7⟩
            case measure => rw [HGK4.out, HNX.out]; omega
    · gi_wp2
      go_wp2
      go_end0
      exact ⟨⟨_, rfl⟩, .inr ⟨_, trivial, hx4⟩⟩
end Go.Proofs.Ytoajmckhfnaifaa
