/- The last check of a profile's text; append of a vote in a walk. The library's SplitSeq at a blank: the iterator keeps its word (TxtK.tpl). The library's SplitSeq handed out, and a word cut at its star. -/
import Derived.Test.YtaanppihgldeaaaGreatDoorW37
import Derived.Test.YtaanppihgldeaaaGreatDoorW34
import Derived.OwnWalkIn
import Derived.TacticsInMore
import Derived.Deep.DeepCutAuto
import Derived.Deep.LoopGhost
namespace Go.Proofs.YtaanppihgldeaaaGreatDoor
set_option linter.unusedSimpArgs false
set_option linter.unusedVariables false
set_option linter.unusedVariables false
open Go.RowKit

/-- below block B all but block g lies as it lay -/
structure Kept (B g : Nat) (w w' : World) : Prop where
  os : w'.os = w.os
  tape : w'.tape = w.tape
  output : w'.output = w.output
  size : w.heap.size ≤ w'.heap.size
  block : ∀ k, k < B → k ≠ g → w'.heap[k]? = w.heap[k]?
theorem Kept.refl (B g : Nat) (w : World) : Kept B g w w := ⟨rfl, rfl, rfl, Nat.le_refl _, fun _ _ _ => rfl⟩
theorem Kept.trans {B g : Nat} {a b c : World} (h : Kept B g a b) (k : Kept B g b c) : Kept B g a c :=
  ⟨k.os.trans h.os, k.tape.trans h.tape, k.output.trans h.output, Nat.le_trans h.size k.size, fun i h1 h2 => (k.block i h1 h2).trans (h.block i h1 h2)⟩
theorem Kept.of_below {B g B' : Nat} {w w' : World} (h : Below B' w w') (hB : B ≤ B') : Kept B g w w' := ⟨h.os, h.tape, h.output, h.size, fun k h1 _ => h.block k (by omega)⟩
theorem Kept.of_only {B g lo hi : Nat} {w w' : World} (h : Only lo hi w w') (hlo : B ≤ lo) (hB : B ≤ w.heap.size) : Kept B g w w' := ⟨h.os, h.tape, h.output, h.size, fun k h1 _ => h.block k (by omega) (by omega)⟩
theorem Kept.setCell (B g j : Nat) (w : World) (u : Value) : Kept B g w (w.setCell ⟨g, j, none⟩ u) := ⟨rfl, rfl, rfl, by simp [World.setCell], fun k _ h2 => Below.heap_setCell _ _ _ _ (by simpa using h2)⟩
theorem Kept.toBelow {B g B' : Nat} {w w' : World} (h : Kept B g w w') (h1 : B' ≤ g) (h2 : B' ≤ B) : Below B' w w' := ⟨h.os, h.tape, h.output, h.size, fun k hk => h.block k (by omega) (by omega)⟩
theorem Kept.cell {B g : Nat} {w w' : World} {p : Addr} {u : Value} (h : Kept B g w w') (hc : w.cell? p = some u) (h1 : p.block < B) (h2 : p.block ≠ g) : w'.cell? p = some u := (World.cell?_of_block (h.block _ h1 h2)).trans hc
theorem Kept.frozen {B g : Nat} {w w' : World} {p : Addr} (h : Kept B g w w') (hf : w.frozen? p = false) (h1 : p.block < B) (h2 : p.block ≠ g) : w'.frozen? p = false := (World.frozen?_of_block (h.block _ h1 h2)).trans hf
section
variable {ops : Array Oper} {rest : List Oper} {o : Oper} {a : Act} {Q : Exit → Act → World → Prop}
theorem wpList_append_V (w : World) (hgd : o.guard = none) (s x : Operand) (hop : o.op = Op.call { callee := Callee.builtin Builtin.append, args := #[s, x], argTypes := #[22, 22] })
    (lo hi n c : Nat) (A : Option Addr) (vs : List Vt) (hs : a.eval s = .slice A n c) (hown : OwnV w lo hi (.slice A n c) vs)
    (A2 : Option Addr) (m2 c2 : Nat) (r : List Int) (cnt : Int) (l2 h2 : Nat) (hu : OwnI w l2 h2 (.slice A2 m2 c2) r) (hl2 : hi ≤ l2) (hh2 : h2 ≤ w.heap.size)
    (b cc : Nat) (hx : a.eval x = .slice (some ⟨b, 0, none⟩) 1 cc) (hc0 : w.cell? ⟨b, 0, none⟩ = some (.slice A2 m2 c2)) (hc1 : w.cell? ⟨b, 1, none⟩ = some (.int .i64 cnt)) (hn : n ≤ 1099511627776) (hbase : lo ≤ hi) (hlw : lo ≤ w.heap.size)
    (hK : ∀ A'' c'' w', OwnV w' lo w'.heap.size (.slice A'' (n + 1) c'') (vs ++ [⟨r, cnt⟩]) → Only lo hi w w' → wpList Tryz.prog ops Q rest (a.put o.dst (.slice A'' (n + 1) c'')) w') :
    wpList Tryz.prog ops Q (o :: rest) a w := by
  refine wpList_plain hgd fun K hK' => ?_
  have h := step_append_V (ops := ops) (Q := Q) (E := True) (K := K) w hgd s x hop lo hi n c A vs hs hown A2 m2 c2 r cnt l2 h2 hu hl2 hh2 b cc hx hc0 hc1 hn hbase hlw (fun A'' c'' w' h1 h2 => hK' _ _ (hK A'' c'' w' h1 h2))
  rw [if_pos (by simp [Region.wanted, hgd])] at h
  exact h
end
/-- how the reading of a profile ends -/
structure ReadProf (a : ByteArray) (w : World) (e : Ending) (w' : World) : Prop where
  ex : ∃ (sz : Int) (A : Option Addr) (n c : Nat) (us : List Vt) (b : Bool), e = .returned (.tuple #[.agg #[.int .i64 sz, .slice A n c], .bool b]) ∧ (b = true ↔ IsProf a) ∧ VotesAt w' A n us ∧ (n ≤ c ∧ c ≤ 9223372036854775807) ∧ (b = true → profOk sz us = true) ∧ Below w.heap.size w w'
theorem ownV_cap {w : World} {lo hi n c : Nat} {A : Option Addr} {us : List Vt} (h : OwnV w lo hi (.slice A n c) us) : c ≤ 9223372036854775807 := by
  obtain ⟨Z, _, h1, _⟩ := h
  rcases h1.2 with ⟨e, _⟩ | ⟨g, cap, cur, e, _, _, _, hm, _⟩
  · cases e; omega
  · cases e; unfold maxLen at hm; omega
theorem votes_nil (w : World) : VotesAt w none 0 [] := ⟨rfl, fun h => absurd h (by omega)⟩
theorem below2 {w0 w : World} {B : Nat} (h : Below B w0 w) (u v : Value) : Below B w0 ((w.setCell ⟨B, 0, none⟩ u).setCell ⟨B, 1, none⟩ v) := (h.setCell (p := ⟨B, 0, none⟩) (Nat.le_refl _) u).setCell (p := ⟨B, 1, none⟩) (Nat.le_refl _) v
theorem free2 {w : World} {B : Nat} {j : Nat} (h : w.frozen? ⟨B, j, none⟩ = false) (u v : Value) : ((w.setCell ⟨B, 0, none⟩ u).setCell ⟨B, 1, none⟩ v).frozen? ⟨B, j, none⟩ = false := by rw [World.frozen?_setCell, World.frozen?_setCell]; exact h
theorem below2' {w0 w : World} {B' B : Nat} (h : Below B' w0 w) (hB : B' ≤ B) (u v : Value) : Below B' w0 ((w.setCell ⟨B, 0, none⟩ u).setCell ⟨B, 1, none⟩ v) := (h.setCell (p := ⟨B, 0, none⟩) hB u).setCell (p := ⟨B, 1, none⟩) hB v
theorem own2 {w : World} {B lo hi : Nat} {x : Value} {us : List Vt} (h : OwnV w lo hi x us) (hB : B < lo) (u v : Value) : OwnV ((w.setCell ⟨B, 0, none⟩ u).setCell ⟨B, 1, none⟩ v) lo hi x us :=
  h.keep fun k h1 _ _ => by rw [Below.heap_setCell _ _ _ _ (by show k ≠ B; omega), Below.heap_setCell _ _ _ _ (by show k ≠ B; omega)]
structure ReadForm (sz : Int) (us : List Vt) (a : ByteArray) (w : World) (e : Ending) (w' : World) : Prop where
  ex : ∃ (s : Int) (A : Option Addr) (n c : Nat) (b : Bool), e = .returned (.tuple #[.agg #[.int .i64 s, .slice A n c], .bool b]) ∧ (b = true ↔ IsProf a) ∧ Below w.heap.size w w'
set_option maxRecDepth 100000 in
set_option maxHeartbeats 4000000 in
theorem implFormatted (m : Int) (A : Option Addr) (n c : Nat) (vs : List Vt) (a : ByteArray) (w : World) (h : VotesAt w A n vs) (hn : n ≤ 1048576) (hx : ∀ v ∈ vs, v.r.length ≤ 1048576) (hfit : fitsB m vs a = true ↔ IsProf a) (G : Glob w) :
    Calls Tryz.prog 16 #[.agg #[.int .i64 m, .slice A n c], .string a] w (ReadForm m vs a w) := by
  obtain rfl := h.len
  have hB := alloc_below w (.cells #[.int .i64 m, .slice A vs.length c] 24)
  obtain ⟨x0, x1⟩ := PBox.new w m A vs.length c 24 rfl
  replace h := h.below hB
  generalize hw0 : w.alloc (.cells #[.int .i64 m, .slice A vs.length c] 24) = w0 at *
  have HFIT := Lib.hid hfit
  have HX := Lib.hid hx
  clear hfit hx
  have s0 : w0.heap.size = w.heap.size + 1 := by rw [← hw0]; simp
  have b1 := alloc_below w0 (.cells #[.int .i64 0, .slice none 0 0] 24)
  obtain ⟨rr0, rr1⟩ := PBox.new w0 0 none 0 0 24 s0.symm
  have rf0 := new_free w0 #[.int .i64 0, .slice none 0 0] 24 s0.symm 0
  have rf1 := new_free w0 #[.int .i64 0, .slice none 0 0] 24 s0.symm 1
  have x0a := x0
  have x1a := x1
  have z0 := cell_carry b1 x0
  have z1 := cell_carry b1 x1
  have hv := h.below b1
  have hbE := hB.trans (b1.mono hB.size)
  have G := G.below hbE
  have hcc : True := trivial
  clear b1 x0 x1 hB h
  go_enter Tryz.func16, Tryz.ntmps16
  generalize hw1 : w0.alloc (.cells #[.int .i64 0, .slice none 0 0] 24) = w1 at *
  have rr0_ := rr0
  have KO := Lib.hid (implProfileOk m A vs.length c vs w1 hv hn HX.out)
  go_wp2_with fail
  (with_reducible refine KO.out.mono ?_)
  rintro e w5 ⟨rfl, b5⟩
  have z0 := cell_carry b5 z0
  have z1 := cell_carry b5 z1
  have rr0 := cell_carry b5 rr0
  have rr1 := cell_carry b5 rr1
  have rf0 := (b5.frozen (p := ⟨w.heap.size + 1, 0, none⟩) (cell_lt rr0_)).trans rf0
  have rf1 := (b5.frozen (p := ⟨w.heap.size + 1, 1, none⟩) (cell_lt rr0_)).trans rf1
  have rr0_ := rr0
  have hv := hv.below b5
  have hbE := hbE.trans (b5.mono hbE.size)
  have G := G.below b5
  clear KO b5 hw0 hw1 x0a x1a
  rcases hok : profOk m vs
  · have HI : Hid (¬ IsProf a) := fun h => by have := HFIT.out.2 h; unfold fitsB at this; rw [hok] at this; cases this
    clear hok HFIT
    obtain ⟨e0, e1⟩ := pair_set rr0 rr1 (.int .i64 0) (.slice none 0 0)
    have E0 := Lib.hid e0
    have E1 := Lib.hid e1
    have HB6 := Lib.hid (below2' (B := w.heap.size + 1) hbE (by omega) (.int .i64 0) (.slice none 0 0))
    clear e0 e1
    go_wp2
    refine bodyPost_ret (v := .tuple #[.agg #[.int .i64 0, .slice none 0 0], .bool false]) (by simp [results, Tryz.results16, go_sem, E0.out, E1.out]) rfl ?_
    exact ⟨0, none, 0, 0, false, rfl, ⟨(fun h => by cases h), fun h => (HI.out h).elim⟩, HB6.out⟩
  · have HOK := Lib.hid hok
    have KF := Lib.hid (implFormatProfile m A vs.length c vs w5 hv hok G)
    clear hok
    go_wp2_with fail
    (with_reducible refine KF.out.mono ?_)
    rintro e w6 ⟨rfl, b6⟩
    have z0 := cell_carry b6 z0
    have z1 := cell_carry b6 z1
    have rr0 := cell_carry b6 rr0
    have rr1 := cell_carry b6 rr1
    have rf0 := (b6.frozen (p := ⟨w.heap.size + 1, 0, none⟩) (cell_lt rr0_)).trans rf0
    have rf1 := (b6.frozen (p := ⟨w.heap.size + 1, 1, none⟩) (cell_lt rr0_)).trans rf1
    have rr0_ := rr0
    have hv := hv.below b6
    have hbE := hbE.trans (b6.mono hbE.size)
    clear KF b6
    by_cases he : strOfNums (fmtN m vs) = a
    · have he2 := str_eq he
      have HI : Hid (IsProf a) := ⟨_, _, HOK.out, he.symm⟩
      clear he HFIT
      obtain ⟨e0, e1⟩ := pair_set rr0 rr1 (.int .i64 m) (.slice A vs.length c)
      have E0 := Lib.hid e0
      have E1 := Lib.hid e1
      have HB6 := Lib.hid (below2' (B := w.heap.size + 1) hbE (by omega) (.int .i64 m) (.slice A vs.length c))
      clear e0 e1
      go_wp2
      refine bodyPost_ret (v := .tuple #[.agg #[.int .i64 m, .slice A vs.length c], .bool true]) (by simp [results, Tryz.results16, go_sem, E0.out, E1.out]) rfl ?_
      exact ⟨m, A, vs.length, c, true, rfl, ⟨fun _ => HI.out, fun _ => rfl⟩, HB6.out⟩
    · have he2 := str_ne he
      have HI : Hid (¬ IsProf a) := fun h => by have := HFIT.out.2 h; unfold fitsB at this; rw [Bool.and_eq_true, decide_eq_true_eq] at this; exact he this.2
      clear he HFIT
      obtain ⟨e0, e1⟩ := pair_set rr0 rr1 (.int .i64 0) (.slice none 0 0)
      have E0 := Lib.hid e0
      have E1 := Lib.hid e1
      have HB6 := Lib.hid (below2' (B := w.heap.size + 1) hbE (by omega) (.int .i64 0) (.slice none 0 0))
      clear e0 e1
      go_wp2
      refine bodyPost_ret (v := .tuple #[.agg #[.int .i64 0, .slice none 0 0], .bool false]) (by simp [results, Tryz.results16, go_sem, E0.out, E1.out]) rfl ?_
      exact ⟨0, none, 0, 0, false, rfl, ⟨(fun h => by cases h), fun h => (HI.out h).elim⟩, HB6.out⟩
end Go.Proofs.YtaanppihgldeaaaGreatDoor
namespace Go.Proofs.YtaanppihgldeaaaGreatDoor
set_option linter.unusedSimpArgs false
set_option linter.unusedVariables false
set_option linter.unusedVariables false
open Go.RowKit

theorem words_last {r : ByteArray} (h : Lib.indexByte r.data.toList 32 = -1) : wordsT r = [r] := by
  unfold wordsT
  rw [spC_none fun x hx => ?_]
  · simp
  · rintro rfl
    obtain ⟨j, hj, e⟩ := List.getElem_of_mem hx
    exact Lib.indexByte_none h j (by rw [List.getElem?_eq_getElem hj, e])
theorem words_cut {r : ByteArray} {i : Nat} (h : Lib.indexByte r.data.toList 32 = (i : Int)) : i < r.size ∧ wordsT r = r.extract 0 i :: wordsT (r.extract (i + 1) r.size) := by
  obtain ⟨h1, h2⟩ := Lib.indexByte_some h
  obtain ⟨hi, e⟩ := List.getElem?_eq_some_iff.1 h1
  have hz := size_list r
  refine ⟨by omega, ?_⟩
  have hs : r.data.toList = r.data.toList.take i ++ 32 :: r.data.toList.drop (i + 1) := by
    have := (List.take_append_drop i r.data.toList).symm
    rw [List.drop_eq_getElem_cons hi, e] at this
    exact this
  have hx : spC 32 [] r.data.toList = r.data.toList.take i :: spC 32 [] (r.data.toList.drop (i + 1)) := by
    conv => lhs; rw [hs]
    rw [spC_hit _ fun x hx => ?_]
    · rfl
    · rintro rfl
      obtain ⟨j, hj, e2⟩ := List.getElem_of_mem hx
      rw [List.length_take] at hj
      rw [List.getElem_take] at e2
      exact h2 j (by omega) (by rw [List.getElem?_eq_getElem (by omega), e2])
  unfold wordsT
  rw [hx, List.map_cons]
  congr 1
  · apply str_ext
    rw [Lib.extract_data]; simp
  · rw [Lib.extract_data, List.take_of_length_le (by rw [List.length_drop]; omega)]
/-- the words come one by one -/
def nextW (ws : List ByteArray) (pre : List ByteArray) (x : ByteArray) : Prop := pre ++ [x] <+: ws
set_option maxRecDepth 100000 in
set_option maxHeartbeats 4000000 in
theorem split_seq (a : ByteArray) (ha : a.size ≤ 1048576) (w : World) (kS kP kV : Nat) (hs : w.cell? ⟨kS, 0, none⟩ = some (.string a)) (hsf : w.frozen? ⟨kS, 0, none⟩ = false) (hp : w.cell? ⟨kP, 0, none⟩ = some (.string ⟨#[32]⟩)) (hv : w.cell? ⟨kV, 0, none⟩ = some (.int .i64 0)) (e1 : kP ≠ kS) (e2 : kV ≠ kS) :
    SeqT (fun k => k = kS ∨ k = kP ∨ k = kV) Tryz.prog 90 #[.pointer (some ⟨kP, 0, none⟩), .pointer (some ⟨kS, 0, none⟩), .pointer (some ⟨kV, 0, none⟩)] (fun x : ByteArray => #[.string x]) (nextW (wordsT a)) (fun xs => xs = wordsT a) (fun pre => pre <+: wordsT a) w := by
  intro l J Jx W hbW hJ hJx hY h0
  have cs := cell_carry hbW hs
  have cp := cell_carry hbW hp
  have cv := cell_carry hbW hv
  have fs := (hbW.frozen (p := ⟨kS, 0, none⟩) (cell_lt hs)).trans hsf
  clear hs hsf hp hv
  obtain ⟨WD, hWD⟩ : ∃ WD, wordsT a = WD := ⟨_, rfl⟩
  have HWD := Lib.hid hWD
  rw [hWD] at hY ⊢
  clear hWD
  go_enter Tryz.func90, Tryz.ntmps90
  go_wp2_with fail
  go_loopg [7] (a.size + 1) (fun gk _ wr => ∃ (r : ByteArray) (pre : List ByteArray), gk = r.size + 1 ∧ r.size ≤ 1048576 ∧ Hid (pre ++ wordsT r = WD) ∧ J pre wr ∧
      wr.cell? ⟨kS, 0, none⟩ = some (.string r) ∧ wr.frozen? ⟨kS, 0, none⟩ = false ∧ wr.cell? ⟨kP, 0, none⟩ = some (.string ⟨#[32]⟩) ∧ wr.cell? ⟨kV, 0, none⟩ = some (.int .i64 0))
  case atStart => exact ⟨a, [], rfl, ha, HWD.out, h0, cs, fs, cp, cv⟩
  case round =>
    clear cs cp cv fs h0
    obtain ⟨r, pre, hgk, hr, hpre, hj, cs, fs, cp, cv⟩ := hrel
    obtain ⟨g0, rfl⟩ : ∃ g0, g0 = gk := ⟨_, rfl⟩
    have HGK := Lib.hid hgk
    clear hgk
    go_wp2_with fail
    (with_reducible refine (sh_strings_Index_one r 32 _).mono ?_)
    rintro e wi ⟨rfl, rfl⟩
    rcases Nat.lt_or_ge 0 0 with hh | hh
    · omega
    clear hh
    rcases Int.lt_or_le (Lib.indexByte r.data.toList 32) 0 with hneg | hpos
    · have hge := Lib.indexByte_ge r.data.toList 32
      have hm1 : Lib.indexByte r.data.toList 32 = -1 := by omega
      have HL := Lib.hid (words_last hm1)
      rw [hm1]
      clear hge hneg hm1
      obtain ⟨fn, tmps, assign, body, hy, hR⟩ := hY (5 - 1) pre r wi hj (by unfold nextW; rw [← hpre.out, HL.out]; exact List.prefix_refl _)
      go_upto_region 10 with fail
      refine (wpIn_wide (n := 5)).1 ?_
      gi_wp2
      first | refine hR.mono ?_ | (refine ⟨fun _ _ => trivial, ?_⟩; gi_wp2; refine hR.mono ?_) | (trace_state; fail "y")
      have HF : Hid (pre ++ [r] = WD) := by show _ = _; rw [← hpre.out, HL.out]
      rintro e W4 (⟨rfl, hj4, hg4⟩ | ⟨rfl, hx4⟩)
      · gi_wp2
        go_wp2
        go_end0
        exact ⟨⟨_, rfl⟩, .inl ⟨_, HF.out, hj4⟩⟩
      · gi_wp2
        go_wp2
        go_end0
        exact ⟨⟨_, rfl⟩, .inr ⟨_, by rw [HF.out]; exact List.prefix_refl _, hx4⟩⟩
    · obtain ⟨i, hi⟩ : ∃ i : Nat, Lib.indexByte r.data.toList 32 = (i : Int) := ⟨(Lib.indexByte r.data.toList 32).toNat, by omega⟩
      have HC := Lib.hid (words_cut hi)
      have hil := HC.out.1
      rw [hi]
      clear hi hpos
      obtain ⟨fn, tmps, assign, body, hy, hR⟩ := hY (5 - 1) pre (r.extract 0 i) wi hj (by unfold nextW; rw [← hpre.out, HC.out.2]; exact ⟨wordsT (r.extract (i + 1) r.size), by simp⟩)
      go_upto_region 8 with fail
      refine (wpIn_wide (n := 5)).1 ?_
      gi_wp2
      first | refine hR.mono ?_ | (refine ⟨fun _ _ => trivial, ?_⟩; gi_wp2; refine hR.mono ?_) | (trace_state; fail "y2")
      rintro e W4 (⟨rfl, hj4, hg4⟩ | ⟨rfl, hx4⟩)
      · have cs4 := hg4.cell cs (fun h => h (.inl rfl))
        have fs4 := hg4.frozen cs fs (fun h => h (.inl rfl))
        have cp4 := hg4.cell cp (fun h => h (.inr (.inl rfl)))
        have cv4 := hg4.cell cv (fun h => h (.inr (.inr rfl)))
        have hj5 := hJ _ _ _ hj4 (Turn.setCell W4 kS 0 (.string (r.extract (i + 1) r.size)) (.inl rfl))
        have q0 := Lib.hid (World.cell?_setCell_same W4 ⟨kS, 0, none⟩ (.string (r.extract (i + 1) r.size)) cs4)
        have qp := Lib.hid ((World.cell?_setCell_other W4 ⟨kS, 0, none⟩ ⟨kP, 0, none⟩ (.string (r.extract (i + 1) r.size)) (by first | (simp; done) | (simp; omega))).trans cp4)
        have qv := Lib.hid ((World.cell?_setCell_other W4 ⟨kS, 0, none⟩ ⟨kV, 0, none⟩ (.string (r.extract (i + 1) r.size)) (by first | (simp; done) | (simp; omega))).trans cv4)
        have qf : Hid ((W4.setCell ⟨kS, 0, none⟩ (.string (r.extract (i + 1) r.size))).frozen? ⟨kS, 0, none⟩ = false) := by show _ = _; rw [World.frozen?_setCell]; exact fs4
        have hp5 : Hid ((pre ++ [r.extract 0 i]) ++ wordsT (r.extract (i + 1) r.size) = WD) := by show _ = _; rw [← hpre.out, HC.out.2]; simp
        have hrs : Hid ((r.extract (i + 1) r.size).size + 1 ≤ r.size) := by show _ ≤ _; simp; omega
        have hi1 : (i : Int) + 1 ≤ (r.size : Int) := by omega
        clear hg4 hR hj hy hpre hj4
        gi_wp2
        go_wp2
        go_roundg ((r.extract (i + 1) r.size).size + 1)
        case rel => exact ⟨r.extract (i + 1) r.size, pre ++ [r.extract 0 i], rfl, by have := hrs.out; omega, hp5.out, hj5, q0.out, qf.out, qp.out, qv.out⟩
        case measure => have := hrs.out; have := HGK.out; omega
      · gi_wp2
        go_wp2
        refine bodyPost_ret (results_none rfl _ _ _) rfl ?_
        exact ⟨⟨_, rfl⟩, .inr ⟨_, by rw [← hpre.out, HC.out.2]; exact ⟨wordsT (r.extract (i + 1) r.size), by simp⟩, hx4⟩⟩
end Go.Proofs.YtaanppihgldeaaaGreatDoor
namespace Go.Proofs.YtaanppihgldeaaaGreatDoor
set_option linter.unusedSimpArgs false
set_option linter.unusedVariables false
set_option linter.unusedVariables false
open Go.RowKit

theorem splitSeq_any (a : ByteArray) (w : World) : Calls Tryz.prog 17 #[.string a, .string ⟨#[32]⟩] w fun e w' => e = .returned (.func (.func 90) #[] #[.pointer (some ⟨w.heap.size + 1, 0, none⟩), .pointer (some ⟨w.heap.size, 0, none⟩), .pointer (some ⟨w.heap.size + 2, 0, none⟩)]) ∧ w' = ((w.alloc (.cells #[.string a] 9)).alloc (.cells #[.string ⟨#[32]⟩] 9)).alloc (.cells #[.int .i64 0] 3) := by
  go_enter Tryz.func17, Tryz.ntmps17
  go_wp2
  go_ret
  exact ⟨rfl, rfl⟩
theorem cut_star {D R : List UInt8} (h : ∀ x ∈ D, x ≠ 42) : (Lib.cut (D ++ 42 :: R) [42]).1 = D ∧ (Lib.cut (D ++ 42 :: R) [42]).2.1 = R := by
  have hocc : ∀ (s : List UInt8) (i : Nat), Lib.occAt s [42] i = decide (s[i]? = some 42) := by
    intro s i
    unfold Lib.occAt
    cases h : s.drop i with
    | nil =>
      have : s[i]? = none := by rw [List.getElem?_eq_none_iff]; simpa using h
      simp [this]
    | cons x t =>
      have : s[i]? = some x := by
        have h2 : (s.drop i)[0]? = some x := by rw [h]; rfl
        simpa using h2
      rw [this]
      simp only [List.isPrefixOf, Bool.and_true, Option.some.injEq]
      rw [Bool.eq_iff_iff, beq_iff_eq, decide_eq_true_eq]
      exact ⟨fun e => e.symm, fun e => e.symm⟩
  have hat : (D ++ 42 :: R)[D.length]? = some 42 := by simp
  have hi : Lib.index (D ++ 42 :: R) [42] = (D.length : Int) := by
    rcases Lib.index_spec (D ++ 42 :: R) [42] with ⟨h1, h2⟩ | ⟨i, h1, h2, h3, h4⟩
    · have := h2 D.length (by simp)
      rw [hocc, hat] at this
      simp at this
    · rw [hocc, decide_eq_true_eq] at h3
      have hge : D.length ≤ i := by
        rcases Nat.lt_or_ge i D.length with hl | hl
        · rw [List.getElem?_append_left hl, List.getElem?_eq_getElem hl] at h3
          injection h3 with h3
          exact absurd h3 (h _ (List.getElem_mem hl))
        · exact hl
      have hle : i ≤ D.length := by
        rcases Nat.lt_or_ge D.length i with hl | hl
        · have := h4 D.length hl
          rw [hocc, hat] at this
          simp at this
        · exact hl
      rw [h1]; omega
  unfold Lib.cut
  rw [hi, if_pos (by omega)]
  simp
theorem cut_size (s : List UInt8) : (Lib.cut s [42]).1.length ≤ s.length ∧ (Lib.cut s [42]).2.1.length ≤ s.length := by
  unfold Lib.cut
  split
  · simp [Nat.min_le_right]
  · simp
theorem cut_word {t : ByteArray} {m : Int} {u : Vt} (hu : voteOk m u = true) (e : t = strOfNums (wordN u)) : (⟨(Lib.cut t.data.toList [42]).1.toArray⟩ : ByteArray) = strOfNums (decN u.c.toNat) ∧ (⟨(Lib.cut t.data.toList [42]).2.1.toArray⟩ : ByteArray) = strOfNums (rankNums u.r) := by
  rw [e, strOf_byteL, word_bytes]
  have h := cut_star (D := Lib.decDigits u.c.toNat) (R := byteL (rankNums u.r)) (dec_no (by decide))
  rw [h.1, h.2]
  exact ⟨str_ext (by rw [decN_bytes]), str_ext (by rw [strOf_byteL])⟩
theorem next_word {ws pre : List ByteArray} {x : ByteArray} (h : nextW ws pre x) : ∃ hl : pre.length < ws.length, ws[pre.length] = x := by
  obtain ⟨t, ht⟩ := h
  subst ht
  exact ⟨by simp, by simp⟩
theorem words_size {a x : ByteArray} (h : x ∈ wordsT a) : x.size ≤ a.size := by
  unfold wordsT at h
  obtain ⟨l, hl, rfl⟩ := List.mem_map.1 h
  have h1 := spC_short _ _ _ hl
  have h2 := size_list a
  have h3 : (⟨l.toArray⟩ : ByteArray).size = l.length := rfl
  simp only [List.length_nil] at h1
  omega
end Go.Proofs.YtaanppihgldeaaaGreatDoor
