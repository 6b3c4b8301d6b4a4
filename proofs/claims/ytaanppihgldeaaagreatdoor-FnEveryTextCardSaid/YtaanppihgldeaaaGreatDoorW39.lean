/- The program reads a profile. -/
import Derived.Test.YtaanppihgldeaaaGreatDoorW38
import Derived.Shelf.Abstract
import Derived.LoopNIn
import Derived.LoopIn
namespace Go.Proofs.YtaanppihgldeaaaGreatDoor
set_option linter.unusedSimpArgs false
set_option linter.unusedVariables false
set_option linter.unusedVariables false
open Go.RowKit Go.Shelf
attribute [local go_sem] Oper.semAt_some

/-- how the program's reading ends -/
structure ReadIs (a : ByteArray) (w : World) (e : Ending) (w' : World) : Prop where
  ex : ∃ (sz : Int) (A : Option Addr) (n c : Nat) (b : Bool), e = .returned (.tuple #[.agg #[.int .i64 sz, .slice A n c], .bool b]) ∧ (b = true ↔ IsProf a) ∧ Below w.heap.size w w'
/-- the result's cells -/
structure ResAt (B : Nat) (sz : Int) (A : Option Addr) (n c : Nat) (b : Bool) (W : World) : Prop where
  r0 : W.cell? ⟨B, 0, none⟩ = some (.int .i64 sz)
  r1 : W.cell? ⟨B, 1, none⟩ = some (.slice A n c)
  rb : W.cell? ⟨B + 1, 0, none⟩ = some (.bool b)
  f0 : W.frozen? ⟨B, 0, none⟩ = false
  f1 : W.frozen? ⟨B, 1, none⟩ = false
  fb : W.frozen? ⟨B + 1, 0, none⟩ = false
theorem ResAt.lt {B n c : Nat} {sz : Int} {A : Option Addr} {b : Bool} {W : World} (h : ResAt B sz A n c b W) : B + 1 < W.heap.size := cell_lt h.rb
theorem ResAt.turn {T : Nat → Prop} {B n c : Nat} {sz : Int} {A : Option Addr} {b : Bool} {W W' : World} (h : ResAt B sz A n c b W) (ht : Turn T W W') (h0 : ¬ T B) (h1 : ¬ T (B + 1)) : ResAt B sz A n c b W' :=
  ⟨ht.cell h.r0 h0, ht.cell h.r1 h0, ht.cell h.rb h1, ht.frozen h.r0 h.f0 h0, ht.frozen h.r1 h.f1 h0, ht.frozen h.rb h.fb h1⟩
theorem ResAt.below {B n c : Nat} {sz : Int} {A : Option Addr} {b : Bool} {W W' : World} (h : ResAt B sz A n c b W) (hb : Below W.heap.size W W') : ResAt B sz A n c b W' :=
  h.turn (T := fun _ => False) (Turn.of_below hb) (fun h => h) (fun h => h)
/-- the result is written -/
theorem ResAt.put {B n c n2 c2 : Nat} {sz s2 : Int} {A A2 : Option Addr} {b b2 : Bool} {W : World} (h : ResAt B sz A n c b W) :
    ResAt B s2 A2 n2 c2 b2 (((W.setCell ⟨B, 0, none⟩ (.int .i64 s2)).setCell ⟨B, 1, none⟩ (.slice A2 n2 c2)).setCell ⟨B + 1, 0, none⟩ (.bool b2)) := by
  obtain ⟨e0, e1⟩ := pair_set h.r0 h.r1 (.int .i64 s2) (.slice A2 n2 c2)
  have eb : ((W.setCell ⟨B, 0, none⟩ (.int .i64 s2)).setCell ⟨B, 1, none⟩ (.slice A2 n2 c2)).cell? ⟨B + 1, 0, none⟩ = some (.bool b) := by
    rw [World.cell?_setCell_other _ _ _ _ (by simp), World.cell?_setCell_other _ _ _ _ (by simp)]; exact h.rb
  refine ⟨?_, ?_, World.cell?_setCell_same _ _ _ eb, ?_, ?_, ?_⟩
  · rw [World.cell?_setCell_other _ _ _ _ (by simp)]; exact e0
  · rw [World.cell?_setCell_other _ _ _ _ (by simp)]; exact e1
  · rw [World.frozen?_setCell, World.frozen?_setCell, World.frozen?_setCell]; exact h.f0
  · rw [World.frozen?_setCell, World.frozen?_setCell, World.frozen?_setCell]; exact h.f1
  · rw [World.frozen?_setCell, World.frozen?_setCell, World.frozen?_setCell]; exact h.fb
theorem put_below {w0 W : World} {B B' : Nat} (h : Below B' w0 W) (hB : B' ≤ B) (u v x : Value) : Below B' w0 (((W.setCell ⟨B, 0, none⟩ u).setCell ⟨B, 1, none⟩ v).setCell ⟨B + 1, 0, none⟩ x) :=
  ((h.setCell (p := ⟨B, 0, none⟩) hB u).setCell (p := ⟨B, 1, none⟩) hB v).setCell (p := ⟨B + 1, 0, none⟩) (by show B' ≤ B + 1; omega) x
theorem put_block {W : World} {B k : Nat} (h0 : k ≠ B) (h1 : k ≠ B + 1) (u v x : Value) : (((W.setCell ⟨B, 0, none⟩ u).setCell ⟨B, 1, none⟩ v).setCell ⟨B + 1, 0, none⟩ x).heap[k]? = W.heap[k]? := by
  rw [Below.heap_setCell _ _ _ _ (by show k ≠ B + 1; exact h1), Below.heap_setCell _ _ _ _ (by show k ≠ B; exact h0), Below.heap_setCell _ _ _ _ (by show k ≠ B; exact h0)]
/-- what the rounds know: the profile so far at block B + 2, the result's cells at B and B + 1 -/
structure RoundAt (a : ByteArray) (w : World) (B : Nat) (pre : List ByteArray) (sz : Int) (us : List Vt) (A : Option Addr) (c : Nat) (W : World) : Prop where
  res : ResAt B 0 none 0 0 false W
  p0 : W.cell? ⟨B + 2, 0, none⟩ = some (.int .i64 sz)
  p1 : W.cell? ⟨B + 2, 1, none⟩ = some (.slice A us.length c)
  f0 : W.frozen? ⟨B + 2, 0, none⟩ = false
  f1 : W.frozen? ⟨B + 2, 1, none⟩ = false
  own : OwnV W (B + 8) W.heap.size (.slice A us.length c) us
  len : us.length = pre.length
  few : us.length ≤ 24
  read : ReadTo a us
  size : SizeOk sz us
  short : ∀ v ∈ us, v.r.length ≤ 1048576
  below : Below w.heap.size w W
theorem RoundAt.turn {T : Nat → Prop} {a : ByteArray} {w : World} {B : Nat} {pre : List ByteArray} {sz : Int} {us : List Vt} {A : Option Addr} {c : Nat} {W W' : World} (h : RoundAt a w B pre sz us A c W) (ht : Turn T W W') (hB : w.heap.size ≤ B) (hT : ∀ k, T k → B + 3 ≤ k ∧ k < B + 8) : RoundAt a w B pre sz us A c W' := by
  have n0 : ∀ k, k < B + 3 → ¬ T k := fun k hk h => by have := hT k h; omega
  refine ⟨h.res.turn ht (n0 _ (by omega)) (n0 _ (by omega)), ht.cell h.p0 (n0 _ (by show B + 2 < _; omega)), ht.cell h.p1 (n0 _ (by show B + 2 < _; omega)), ht.frozen h.p0 h.f0 (n0 _ (by show B + 2 < _; omega)), ht.frozen h.p1 h.f1 (n0 _ (by show B + 2 < _; omega)), ?_, h.len, h.few, h.read, h.size, h.short, ?_⟩
  · exact (h.own.keep fun k h1 _ h3 => ht.block k h3 fun h4 => by have := hT k h4; omega).mono (Nat.le_refl _) ht.size
  · have hlt := h.res.lt
    exact h.below.trans ⟨ht.os, ht.tape, ht.output, ht.size, fun k hk => ht.block k (by omega) (n0 k (by omega))⟩
theorem RoundAt.later {a : ByteArray} {w : World} {B : Nat} {pre : List ByteArray} {sz : Int} {us : List Vt} {A : Option Addr} {c : Nat} {W W' : World} (h : RoundAt a w B pre sz us A c W) (hb : Below W.heap.size W W') (hB : w.heap.size ≤ B) : RoundAt a w B pre sz us A c W' :=
  h.turn (T := fun _ => False) (Turn.of_below hb) hB (fun _ h => h.elim)
section
variable {ops : Array Oper} {rest : List Oper} {o : Oper} {a : Act} {Q : Exit → Act → World → Prop}
theorem wpListIn_append_V {F : Fence} {nn : Nat} (w : World) (hgd : o.guard = none) (s x : Operand) (hop : o.op = Op.call { callee := Callee.builtin Builtin.append, args := #[s, x], argTypes := #[22, 22] })
    (lo hi n c : Nat) (A : Option Addr) (vs : List Vt) (hs : a.eval s = .slice A n c) (hown : OwnV w lo hi (.slice A n c) vs)
    (A2 : Option Addr) (m2 c2 : Nat) (r : List Int) (cnt : Int) (l2 h2 : Nat) (hu : OwnI w l2 h2 (.slice A2 m2 c2) r) (hl2 : hi ≤ l2) (hh2 : h2 ≤ w.heap.size)
    (b cc : Nat) (hx : a.eval x = .slice (some ⟨b, 0, none⟩) 1 cc) (hc0 : w.cell? ⟨b, 0, none⟩ = some (.slice A2 m2 c2)) (hc1 : w.cell? ⟨b, 1, none⟩ = some (.int .i64 cnt)) (hn : n ≤ 1099511627776) (hbase : lo ≤ hi) (hlw : lo ≤ w.heap.size)
    (hK : ∀ A'' c'' w', OwnV w' lo w'.heap.size (.slice A'' (n + 1) c'') (vs ++ [⟨r, cnt⟩]) → Only lo hi w w' → wpListIn F nn Tryz.prog ops Q rest (a.put o.dst (.slice A'' (n + 1) c'')) w') :
    wpListIn F nn Tryz.prog ops Q (o :: rest) a w := by
  obtain ⟨i0, hi0, hz0, hz1, hz2⟩ := info_parts infoV
  obtain rfl := hown.num.1
  have hZ0 := hown
  obtain ⟨Z, hz, h1, _⟩ := hZ0
  have hzl : Z.length = vs.length := by rw [← hz, List.length_map]
  rw [hzl] at h1
  refine wpListIn_append_own w hgd s x 22 hop lo 44 i0 (.agg #[.slice none 0 0, .int .i64 0]) 2 32 Tryz.underlying22 hi0 hz0 hz1 hz2 (by decide) (by decide) _ vs.length _ hs h1 ⟨b, 0, none⟩ 1 cc [.slice A2 m2 c2, .int .i64 cnt] hx rfl
    (fun j u hj => by
      match j, hj with
      | 0, hj => simp at hj; subst hj; simpa [Addr.add] using hc0
      | 1, hj => simp at hj; subst hj; simpa [Addr.add] using hc1) (fun u hu => by simp at hu; rcases hu with rfl | rfl <;> rfl) (by unfold maxLen; omega) (by omega) hlw ?_
  intro v' w' o1 hgrow _
  have hg : OwnV w' lo w'.heap.size v' (vs ++ [⟨r, cnt⟩]) ∧ Only lo hi w w' := by
    refine OwnV.grown hown hu hl2 hh2 hbase fun Y hY hYo => ?_
    have hYZ : flatV Y = flatV Z := by
      have a1 := hYo.2
      have b1 := h1.2
      have l1 := hYo.1
      have l2 := h1.1
      rcases a1 with ⟨e1, e2⟩ | ⟨g1, cap1, cur1, hv1, _, hg1, _, _, _, ht1⟩
      · rw [e2] at l1 l2
        rw [List.eq_nil_of_length_eq_zero (by omega : (flatV Y).length = 0), List.eq_nil_of_length_eq_zero (by omega : (flatV Z).length = 0)]
      · rcases b1 with ⟨e1, e2⟩ | ⟨g2, cap2, cur2, hv2, _, hg2, _, _, _, ht2⟩
        · rw [e1] at hv1; cases hv1
        · rw [hv1] at hv2
          cases hv2
          rw [hg1] at hg2
          simp at hg2
          rw [← ht1, ← ht2, hg2]
    rw [hYZ]
    exact ⟨v', o1, hgrow, rfl⟩
  obtain ⟨A', c', e, _⟩ := hg.1.len
  rw [List.length_append] at e
  subst e
  exact hK A' c' w' hg.1 hg.2
end
theorem minus_yes {a : ByteArray} {l : List UInt8} (h : a.data.toList = 45 :: l) : Lib.hasPrefix a.data.toList ({ data := #[45] } : ByteArray).data.toList = true ∧ Lib.trimPrefix a.data.toList ({ data := #[45] } : ByteArray).data.toList = l := by
  have e : ({ data := #[45] } : ByteArray).data.toList = [45] := rfl
  have h1 : Lib.hasPrefix (45 :: l) [45] = true := by simp [Lib.hasPrefix]
  rw [e, h]
  refine ⟨h1, ?_⟩
  unfold Lib.trimPrefix
  rw [h1]; rfl
theorem minus_no {a : ByteArray} (h : ¬ ∃ l, a.data.toList = 45 :: l) : Lib.hasPrefix a.data.toList ({ data := #[45] } : ByteArray).data.toList = false := by
  have e : ({ data := #[45] } : ByteArray).data.toList = [45] := rfl
  rw [e]
  unfold Lib.hasPrefix
  cases hl : a.data.toList with
  | nil => rfl
  | cons x r =>
    simp only [List.isPrefixOf, Bool.and_true]
    rw [beq_eq_false_iff_ne]
    rintro rfl
    exact h ⟨r, hl⟩
theorem below_putD (W : World) (D : Nat) (o : Obj) : Below D W (W.putObj D o) := by
  have g := grownBy_putObj' W D o
  refine ⟨g.os, g.tape, g.output, g.size, fun k hk => ?_⟩
  exact World.putObj_heap_other (by omega)
set_option maxRecDepth 100000 in
set_option maxHeartbeats 8000000 in
theorem implParseProfile (a : ByteArray) (w : World) (ha : a.size ≤ 1048576) (G : Glob w) :
    Calls Tryz.prog 4 #[.string a] w (ReadIs a w) := by
  obtain ⟨B, hB⟩ : ∃ B, w.heap.size = B := ⟨_, rfl⟩
  refine (callsIn_wide (n := 6)).1 (callsIn_of_wp_marks Tryz.func4 rfl trivial ?_ rfl)
  simp only [Tryz.ntmps4, List.size_toArray, List.length_cons, List.length_nil, Nat.reduceAdd, Nat.reduceSub, Array.replicate_succ, Array.replicate_zero, List.push_toArray, List.append_toArray, List.nil_append, List.cons_append]
  refine (wpIn_wide (n := 6)).2 ?_
  have b0 := alloc_below w (.cells #[.int .i64 0, .slice none 0 0] 24)
  obtain ⟨r0, r1⟩ := PBox.new w 0 none 0 0 24 hB.symm
  have f0 := new_free w #[.int .i64 0, .slice none 0 0] 24 hB.symm 0
  have f1 := new_free w #[.int .i64 0, .slice none 0 0] 24 hB.symm 1
  have s0 : (w.alloc (.cells #[.int .i64 0, .slice none 0 0] 24)).heap.size = B + 1 := by simp [hB]
  obtain ⟨w0, hw0⟩ : ∃ w0, w.alloc (.cells #[.int .i64 0, .slice none 0 0] 24) = w0 := ⟨_, rfl⟩
  rw [hw0] at b0 r0 r1 f0 f1 s0
  have b1 := alloc_below w0 (.cells #[.bool false] 4)
  have rb := new_cell w0 (.bool false) 4 s0.symm
  have fb := new_free w0 #[.bool false] 4 s0.symm 0
  have s1 : (w0.alloc (.cells #[.bool false] 4)).heap.size = B + 2 := by simp [s0]
  have RA : ResAt B 0 none 0 0 false (w0.alloc (.cells #[.bool false] 4)) := ⟨old_cell r0 _, old_cell r1 _, rb, old_free r0 f0 _, old_free r1 f1 _, fb⟩
  have hb1 := b0.trans (b1.mono b0.size)
  clear r0 r1 f0 f1 rb fb b0 b1
  have G1 := G.below hb1
  by_cases hm : ∃ l, a.data.toList = 45 :: l
  · obtain ⟨l, hl⟩ := hm
    have hmy := minus_yes hl
    have KC := sh_strings_CutPrefix a ⟨#[45]⟩ (w0.alloc (.cells #[.bool false] 4))
    rw [hmy.1, hmy.2] at KC
    have hlz := size_list a
    rw [hl, List.length_cons] at hlz
    obtain ⟨t, ht⟩ : ∃ t : ByteArray, (⟨l.toArray⟩ : ByteArray) = t := ⟨_, rfl⟩
    have htl : t.data.toList = l := by rw [← ht]
    have htz : t.size ≤ 1048576 := by rw [size_list, htl]; omega
    rw [ht] at KC
    have HKC := Lib.hid KC
    have HL := Lib.hid hl
    have HTL := Lib.hid htl
    clear hmy KC hlz ht hl htl
    go_wp2_with fail
    (with_reducible refine HKC.out.mono ?_)
    rintro e w1 ⟨rfl, rfl⟩
    clear hw0 HKC
    generalize w0.alloc (.cells #[.bool false] 4) = w1 at *
    go_wp2_with fail
    (with_reducible refine (implParseInt t w1 htz G1).mono ?_)
    rintro e w2 ⟨n, ok, rfl, n0, n1, hn, hb2⟩
    have hfit : fitsB n [] a = true ↔ IsProf a := fits_minus HL.out HTL.out (fun k hk e => (hn k hk e).1)
    have KF := Lib.hid (implFormatted n none 0 0 [] a w2 (votes_nil w2) (by omega) (fun v hv => by simp at hv) hfit (G1.below hb2))
    have RA2 := RA.below hb2
    have hbb := hb1.trans (hb2.mono hb1.size)
    clear RA hb2 hb1 G1 hn HL HTL hfit
    go_wp2_with fail
    (with_reducible refine KF.out.mono ?_)
    rintro e w3 ⟨sz, A3, n3, c3, b, rfl, hbi, hb3⟩
    have RA3 := RA2.below hb3
    have hb4 := hbb.trans (hb3.mono hbb.size)
    have R4 := Lib.hid (RA3.put (s2 := sz) (A2 := A3) (n2 := n3) (c2 := c3) (b2 := b))
    have HB4 := Lib.hid (put_below hb4 (B := B) (by omega) (.int .i64 sz) (.slice A3 n3 c3) (.bool b))
    have HBI := Lib.hid hbi
    have r0 := RA3.r0
    have r1 := RA3.r1
    have rb := RA3.rb
    have f0 := RA3.f0
    have f1 := RA3.f1
    have fb := RA3.fb
    have rb2 : ((w3.setCell ⟨B, 0, none⟩ (.int .i64 sz)).setCell ⟨B, 1, none⟩ (.slice A3 n3 c3)).cell? ⟨B + 1, 0, none⟩ = some (.bool false) := by
      rw [World.cell?_setCell_other _ _ _ _ (by simp), World.cell?_setCell_other _ _ _ _ (by simp)]; exact rb
    have fb2 : ((w3.setCell ⟨B, 0, none⟩ (.int .i64 sz)).setCell ⟨B, 1, none⟩ (.slice A3 n3 c3)).frozen? ⟨B + 1, 0, none⟩ = false := by rw [World.frozen?_setCell, World.frozen?_setCell]; exact fb
    clear KF RA2 RA3 hbb hb3 hb4 hbi
    go_wp2
    refine ⟨.tuple #[.agg #[.int .i64 sz, .slice A3 n3 c3], .bool b], ?_, ?_⟩
    · simp [results, Tryz.f4, go_sem, R4.out.r0, R4.out.r1, R4.out.rb]
    · exact ⟨sz, A3, n3, c3, b, rfl, HBI.out, HB4.out⟩
  · have HM := Lib.hid hm
    have KC := sh_strings_CutPrefix a ⟨#[45]⟩ (w0.alloc (.cells #[.bool false] 4))
    rw [minus_no hm] at KC
    have HKC := Lib.hid KC
    clear KC hm
    have b2 := alloc_below (w0.alloc (.cells #[.bool false] 4)) (.cells #[.int .i64 0, .slice none 0 0] 24)
    obtain ⟨p0, p1⟩ := PBox.new (w0.alloc (.cells #[.bool false] 4)) 0 none 0 0 24 s1.symm
    have pf0 := new_free (w0.alloc (.cells #[.bool false] 4)) #[.int .i64 0, .slice none 0 0] 24 s1.symm 0
    have pf1 := new_free (w0.alloc (.cells #[.bool false] 4)) #[.int .i64 0, .slice none 0 0] 24 s1.symm 1
    have s2 : ((w0.alloc (.cells #[.bool false] 4)).alloc (.cells #[.int .i64 0, .slice none 0 0] 24)).heap.size = B + 3 := by simp [s0]
    have RA2 := RA.below b2
    have hb2 := hb1.trans (b2.mono hb1.size)
    clear RA b2 hb1 G1
    go_wp2_with fail
    (with_reducible refine HKC.out.mono ?_)
    rintro e w1 ⟨rfl, rfl⟩
    go_wp2_with fail
    generalize (w0.alloc (.cells #[.bool false] 4)).alloc (.cells #[.int .i64 0, .slice none 0 0] 24) = w2 at *
    clear hw0 HKC s0 s1
    (with_reducible refine (splitSeq_any a w2).mono ?_)
    rintro e w5 ⟨rfl, hw5⟩
    have b3 := alloc_below w2 (.cells #[.string a] 9)
    have c3 := new_cell w2 (.string a) 9 s2.symm
    have c3f := new_free w2 #[.string a] 9 s2.symm 0
    have s3 : (w2.alloc (.cells #[.string a] 9)).heap.size = B + 4 := by simp [s2]
    have b4 := alloc_below (w2.alloc (.cells #[.string a] 9)) (.cells #[.string ⟨#[32]⟩] 9)
    have c4 := new_cell (w2.alloc (.cells #[.string a] 9)) (.string ⟨#[32]⟩) 9 s3.symm
    have s4 : ((w2.alloc (.cells #[.string a] 9)).alloc (.cells #[.string ⟨#[32]⟩] 9)).heap.size = B + 5 := by simp [s2]
    have b5 := alloc_below ((w2.alloc (.cells #[.string a] 9)).alloc (.cells #[.string ⟨#[32]⟩] 9)) (.cells #[.int .i64 0] 3)
    have c5 := new_cell ((w2.alloc (.cells #[.string a] 9)).alloc (.cells #[.string ⟨#[32]⟩] 9)) (.int .i64 0) 3 s4.symm
    have s5 : w5.heap.size = B + 6 := by rw [hw5]; simp [s2]
    rw [← hw5] at b5 c5
    have c4 := cell_carry b5 c4
    have c3 := cell_carry b5 (cell_carry b4 c3)
    have b45 := b4.trans (b5.mono b4.size)
    have c3f : w5.frozen? ⟨B + 3, 0, none⟩ = false := (b45.frozen (p := ⟨B + 3, 0, none⟩) (by show B + 3 < _; omega)).trans c3f
    have b25 := b3.trans (b45.mono b3.size)
    have R5 : RoundAt a w B [] 0 [] none 0 w5 := ⟨RA2.below b25, cell_carry b25 p0, cell_carry b25 p1, (b25.frozen (p := ⟨B + 2, 0, none⟩) (by show B + 2 < _; omega)).trans pf0, (b25.frozen (p := ⟨B + 2, 1, none⟩) (by show B + 2 < _; omega)).trans pf1, OwnV.nil _ _ _, rfl, by simp, ReadTo.nil a, (fun h => absurd h (by simp)), (fun v h => by simp at h), hb2.trans (b25.mono hb2.size)⟩
    have hseq := split_seq a ha w5 (B + 3) (B + 4) (B + 5) c3 c3f c4 c5 (by omega) (by omega)
    rw [s2]
    clear hw5 b3 c3 c3f s3 b4 c4 s4 b5 c5 b45 b25 RA2 hb2 p0 p1 pf0 pf1 s2
    go_wp2_with fail
    refine (wpIn_wide (n := 6)).1 ?_
    refine wp_rangeT (n := 5) (gf := 90) (lb := #[.pointer (some ⟨B + 4, 0, none⟩), .pointer (some ⟨B + 3, 0, none⟩), .pointer (some ⟨B + 5, 0, none⟩)]) rfl (enters_of Tryz.func90 (by kernel_rfl) rfl) (fun k => k = B + 3 ∨ k = B + 4 ∨ k = B + 5) (fun k hk => by omega) hseq (fun _ => rfl)
      (fun pre W => ∃ sz us A1 c1, RoundAt a w B pre sz us A1 c1 W)
      (fun cd pre W => cd = .ret ∧ ResAt B 0 none 0 0 false W ∧ Below w.heap.size w W ∧ ¬ IsProf a)
      ?hI ?hIx ⟨_, _, _, _, R5⟩ (fun x ts => (ts.setIfInBounds 36 (.string x)).setIfInBounds 9 (.string x)) ?assign ?body ?done ?stop
    case hI =>
      rintro pre A1 A2 ⟨sz, us, A3, c1, R⟩ _ ht
      exact ⟨sz, us, A3, c1, R.turn ht (by omega) (fun k hk => by rw [s5] at hk; omega)⟩
    case hIx =>
      rintro cd pre A1 A2 ⟨h1, h2, h3, h4⟩ ht
      have hlt := h2.lt
      refine ⟨h1, h2.turn ht (by rw [s5]; omega) (by rw [s5]; omega), h3.trans ⟨ht.os, ht.tape, ht.output, ht.size, fun k hk => ht.block k (by omega) (by rw [s5]; omega)⟩, h4⟩
    case assign =>
      intro l x W K hK
      gi_wp2
      simpa using hK
    case body =>
      rintro l pre x W hs ⟨sz, us, A1, c1, R⟩ hy
      obtain ⟨hpl, hpx⟩ := next_word hy
      have hxz : x.size ≤ 1048576 := Nat.le_trans (words_size (by rw [← hpx]; exact List.getElem_mem hpl)) ha
      simp only [List.setIfInBounds_toArray, List.set_cons_zero, List.set_cons_succ]
      have GW := G.below R.below
      obtain ⟨mm, hmm⟩ := GW.c0
      have K1 := sh_strings_Cut x ⟨#[42]⟩ mm W (by omega) hmm
      have e42 : (⟨#[42]⟩ : ByteArray).data.toList = [42] := rfl
      rw [e42] at K1
      have HC := Lib.hid (fun m u hu e => cut_word (t := x) (m := m) (u := u) hu e)
      have hcs := cut_size x.data.toList
      have hxl := size_list x
      obtain ⟨t0, ht0⟩ : ∃ t0 : ByteArray, (⟨(Lib.cut x.data.toList [42]).1.toArray⟩ : ByteArray) = t0 := ⟨_, rfl⟩
      obtain ⟨t1, ht1⟩ : ∃ t1 : ByteArray, (⟨(Lib.cut x.data.toList [42]).2.1.toArray⟩ : ByteArray) = t1 := ⟨_, rfl⟩
      have hz0 : t0.size ≤ 1048576 := by rw [← ht0, size_list]; simp only []; omega
      have hz1 : t1.size ≤ 1048576 := by rw [← ht1, size_list]; simp only []; omega
      rw [ht0, ht1] at K1 HC
      have HK1 := Lib.hid K1
      have HPX := Lib.hid hpx
      clear ht0 ht1 hcs hxl K1 e42 hmm hseq hy
      generalize (Lib.cut x.data.toList [42]).2.2 = fl at *
      gi_wp2_with fail
      refine ⟨trivial, (CallsIn.inRound l (callsIn_wide.2 HK1.out)).mono ?_⟩
      rintro e W1 ⟨rfl, nq, rfl⟩
      have b1 : Below W.heap.size W (W.drewN nq) := below_of_drewN rfl
      have R1 := R.later b1 (by omega)
      have HW1 := b1.size
      have T1 : Turn (fun k => ¬ (k = B + 3 ∨ k = B + 4 ∨ k = B + 5) ∧ k ≠ w5.heap.size ∧ k ≠ w5.heap.size + 1) W (W.drewN nq) := Turn.of_below b1
      clear R b1 HK1 GW
      generalize W.drewN nq = W1 at *
      have G1 := G.below R1.below
      gi_wp2_with fail
      refine ⟨trivial, (CallsIn.inRound l (callsIn_wide.2 (implParseInt t0 W1 hz0 G1))).mono ?_⟩
      rintro e W2 ⟨n, ok, rfl, n0, n1, hn, b2⟩
      have R2 := R1.later b2 (by omega)
      have T2 := T1.trans (Turn.of_below b2)
      have HW2 := Nat.le_trans HW1 b2.size
      have HN := Lib.hid hn
      clear R1 T1 b2 hn G1 HW1
      gi_wp2_with fail
      refine ⟨trivial, (CallsIn.inRound l (callsIn_wide.2 (implParseRanking t1 W2 hz1))).mono ?_⟩
      rintro e W3 ⟨A4, c4, rfl, o4, b3⟩
      have R3 := R2.later b3 (by omega)
      have T3 := T2.trans (Turn.of_below b3)
      have HW3 := Nat.le_trans HW2 b3.size
      have h23 := b3.size
      have HL5 := Lib.hid (parR_short t1.data.toList)
      have HONE : Hid (ReadOne x ⟨parR t1.data.toList, n⟩) := fun m u hu e => by
        obtain ⟨e0, e1⟩ := HC.out m u hu e
        have hv := vote_ok hu
        obtain ⟨h3, _⟩ := HN.out u.c.toNat (by omega) e0
        have h5 := parR_back hv.1
        rw [e1, strOf_byteL, h5.1]
        have : n = u.c := by omega
        rw [this]
      have hown2 := R2.own.belowW b3
      have h2B : B + 8 ≤ W2.heap.size := by rw [s5] at hs; omega
      clear R2 T2 b3 HC HN HW2
      generalize parR t1.data.toList = L at *
      generalize okR t1.data.toList = okL at *
      have p0 := R3.p0
      have p1 := R3.p1
      have pf0 := R3.f0
      have pf1 := R3.f1
      have hfew := R3.few
      have hown := R3.own
      have HR3 := Lib.hid R3
      have HT3 := Lib.hid T3
      by_cases h24 : us.length = 24
      · have HI : Hid (¬ IsProf a) := too_many HM.out (by have := R3.len; omega)
        have t24 : ((us.length : Int) == 24) = true := by rw [beq_iff_eq]; omega
        have r0 := R3.res.r0
        have r1 := R3.res.r1
        have rb := R3.res.rb
        have f0 := R3.res.f0
        have f1 := R3.res.f1
        have fb := R3.res.fb
        have rb2 : ((W3.setCell ⟨B, 0, none⟩ (.int .i64 0)).setCell ⟨B, 1, none⟩ (.slice none 0 0)).cell? ⟨B + 1, 0, none⟩ = some (.bool false) := by
          rw [World.cell?_setCell_other _ _ _ _ (by simp), World.cell?_setCell_other _ _ _ _ (by simp)]; exact rb
        have fb2 : ((W3.setCell ⟨B, 0, none⟩ (.int .i64 0)).setCell ⟨B, 1, none⟩ (.slice none 0 0)).frozen? ⟨B + 1, 0, none⟩ = false := by rw [World.frozen?_setCell, World.frozen?_setCell]; exact fb
        clear R3 T3 hown hown2 h24 HONE
        gi_wp2
        refine ⟨⟨?_, ?_, ?_⟩, rfl, HR3.out.res.put, put_below HR3.out.below (by omega) _ _ _, HI.out⟩
        · rw [World.size_setCell, World.size_setCell, World.size_setCell]; exact HW3
        · rw [put_block (by rw [s5]; omega) (by rw [s5]; omega)]; exact HT3.out.block _ (by omega) (fun h => h.2.1 rfl)
        · rw [put_block (by rw [s5]; omega) (by rw [s5]; omega)]; exact HT3.out.block _ (by omega) (fun h => h.2.2 rfl)
      · have t24 : ((us.length : Int) == 24) = false := by rw [beq_eq_false_iff_ne]; omega
        have HFEW := Lib.hid (show us.length + 1 ≤ 24 by omega)
        have f1' : (W3.setCell ⟨B + 2, 0, none⟩ (.int .i64 (L.length : Int))).frozen? ⟨B + 2, 1, none⟩ = false := by rw [World.frozen?_setCell]; exact pf1
        have f0' : (W3.setCell ⟨B + 2, 0, none⟩ (.int .i64 (L.length : Int))).frozen? ⟨B + 2, 0, none⟩ = false := by rw [World.frozen?_setCell]; exact pf0
        have q0 := World.cell?_setCell_same W3 ⟨B + 2, 0, none⟩ (.int .i64 (L.length : Int)) p0
        have q1 := (World.cell?_setCell_other W3 ⟨B + 2, 0, none⟩ ⟨B + 2, 1, none⟩ (.int .i64 (L.length : Int)) (by simp)).trans p1
        have own4 : OwnV (W3.setCell ⟨B + 2, 0, none⟩ (.int .i64 (L.length : Int))) (B + 8) W2.heap.size (.slice A1 us.length c1) us := hown2.keep fun k h1 _ _ => Below.heap_setCell _ _ _ _ (by show k ≠ B + 2; omega)
        have o4' : OwnI (W3.setCell ⟨B + 2, 0, none⟩ (.int .i64 (L.length : Int))) W2.heap.size W3.heap.size (.slice A4 L.length c4) L := o4.keep fun k h1 _ _ => Below.heap_setCell _ _ _ _ (by show k ≠ B + 2; omega)
        have z4 : (W3.setCell ⟨B + 2, 0, none⟩ (.int .i64 (L.length : Int))).heap.size = W3.heap.size := World.size_setCell _ _ _
        have TT4 : Turn (fun k => k = B + 2 ∨ B + 8 ≤ k) W3 (W3.setCell ⟨B + 2, 0, none⟩ (.int .i64 (L.length : Int))) := Turn.setCell W3 (B + 2) 0 _ (.inl rfl)
        clear R3 T3 hown hown2 o4 h24 hpx
        gi_wp2_with (gi_at_builtin; (refine wpListIn_append_V _ rfl _ _ rfl (B + 8) W2.heap.size us.length c1 A1 us rfl (own4.alloc _) A4 L.length c4 L n W2.heap.size W3.heap.size (o4'.alloc _) (Nat.le_refl _) (by first | (simp; done) | (simp; omega)) _ 1 rfl (new_pair _ _ _ _ z4.symm).1 (new_pair _ _ _ _ z4.symm).2 (by omega) h2B (by first | (simp; done) | (simp; omega)) ?_))
        intro A9 c9 W9 ho9 on9
        have TT9 : Turn (fun k => k = B + 2 ∨ B + 8 ≤ k) W3 W9 := TT4.trans ((Turn.of_below (alloc_below _ _)).trans ⟨on9.os, on9.tape, on9.output, on9.size, fun k h1 h2 => on9.block k h1 fun h => h2 (.inr h.1)⟩)
        have y1 := on9.cell (old_cell q1 _) (by show ¬ (B + 8 ≤ B + 2 ∧ _); omega)
        have y0 := on9.cell (old_cell q0 _) (by show ¬ (B + 8 ≤ B + 2 ∧ _); omega)
        have yf1 := on9.frozen (p := ⟨B + 2, 1, none⟩) (old_cell q1 _) (old_free q1 f1' _) (by show ¬ (B + 8 ≤ B + 2 ∧ _); omega)
        have yf0 := on9.frozen (p := ⟨B + 2, 0, none⟩) (old_cell q0 _) (old_free q0 f0' _) (by show ¬ (B + 8 ≤ B + 2 ∧ _); omega)
        have TT10 := TT9.trans (Turn.setCell (T := fun k => k = B + 2 ∨ B + 8 ≤ k) W9 (B + 2) 1 (.slice A9 (us.length + 1) c9) (.inl rfl))
        have HX := Lib.hid (show ∀ v ∈ us ++ [(⟨L, n⟩ : Vt)], v.r.length ≤ 1048576 from fun v hv => by
          rcases List.mem_append.1 hv with hv | hv
          · exact HR3.out.short v hv
          · rw [List.mem_singleton] at hv; subst hv; have := HL5.out; show L.length ≤ _; omega)
        have hul : us.length < (wordsT a).length := by have := HR3.out.len; omega
        have HRD : Hid (ReadTo a (us ++ [(⟨L, n⟩ : Vt)])) := HR3.out.read.snoc hul (by
          have e1 : (wordsT a)[us.length] = x := by
            have h1 := HPX.out
            have h2 := HR3.out.len
            simp only [h2]; exact h1
          rw [e1]; exact HONE.out)
        have e10 : us.length + 1 = (us ++ [(⟨L, n⟩ : Vt)]).length := by simp
        have p1_ := World.cell?_setCell_same W9 ⟨B + 2, 1, none⟩ (.slice A9 (us.length + 1) c9) y1
        have p0_ := (World.cell?_setCell_other W9 ⟨B + 2, 1, none⟩ ⟨B + 2, 0, none⟩ (.slice A9 (us.length + 1) c9) (by simp)).trans y0
        have own10 : OwnV (W9.setCell ⟨B + 2, 1, none⟩ (.slice A9 (us.length + 1) c9)) (B + 8) (W9.setCell ⟨B + 2, 1, none⟩ (.slice A9 (us.length + 1) c9)).heap.size (.slice A9 (us.length + 1) c9) (us ++ [(⟨L, n⟩ : Vt)]) :=
          (ho9.keep fun k h1 _ _ => Below.heap_setCell _ _ _ _ (by show k ≠ B + 2; omega)).mono (Nat.le_refl _) (by rw [World.size_setCell]; exact Nat.le_refl _)
        have RF : Hid (RoundAt a w B (pre ++ [x]) (L.length : Int) (us ++ [(⟨L, n⟩ : Vt)]) A9 c9 (W9.setCell ⟨B + 2, 1, none⟩ (.slice A9 (us.length + 1) c9))) := by
          have hR := HR3.out
          rw [e10] at own10 p1_ p0_ TT10 ⊢
          exact ⟨hR.res.turn TT10 (by omega) (by omega), p0_, p1_, by rw [World.frozen?_setCell]; exact yf0, by rw [World.frozen?_setCell]; exact yf1, own10, by simp [hR.len], by have := HFEW.out; simp; omega, HRD.out, SizeOk.snoc us ⟨L, n⟩, HX.out, hR.below.trans ⟨TT10.os, TT10.tape, TT10.output, TT10.size, fun k hk => TT10.block k (by have := hR.res.lt; omega) (by omega)⟩⟩
        have TF := Lib.hid (HT3.out.trans (TT10.mono (T' := fun k => ¬ (k = B + 3 ∨ k = B + 4 ∨ k = B + 5) ∧ k ≠ w5.heap.size ∧ k ≠ w5.heap.size + 1) fun k hk => by rw [s5]; omega))
        clear TT9 TT10 TT4 y0 yf0 p1_ p0_ own10 ho9 on9 q0 q1 f0' f1' own4 o4' z4 e10 hul
        gi_wp2
        exact ⟨TF.out, _, _, _, _, RF.out⟩
    case done =>
      rintro D xs W hD rfl ⟨sz, us, A1, c1, R⟩ hK
      obtain rfl : D = B + 6 := by omega
      clear hD
      have hfit : fitsB sz us a = true ↔ IsProf a := fits_words HM.out R.read R.len R.size
      have KF := Lib.hid (implFormatted sz A1 us.length c1 us a W R.own.at_ (by have := R.few; omega) R.short hfit (G.below R.below))
      have p0 := R.p0
      have p1 := R.p1
      have HR := Lib.hid R
      have hDl := (Array.getElem?_eq_some_iff.1 hK).1
      clear hfit R hseq
      go_wp2_with fail
      (with_reducible refine KF.out.mono ?_)
      rintro e w3 ⟨sz, A3, n3, c3, b, rfl, hbi, hb3⟩
      have RA3 := HR.out.res.below hb3
      have hb4 := HR.out.below.trans (hb3.mono HR.out.below.size)
      have R4 := Lib.hid (RA3.put (s2 := sz) (A2 := A3) (n2 := n3) (c2 := c3) (b2 := b))
      have HB4 := Lib.hid (put_below hb4 (B := B) (by omega) (.int .i64 sz) (.slice A3 n3 c3) (.bool b))
      have HBI := Lib.hid hbi
      have hK2 : (((w3.setCell ⟨B, 0, none⟩ (.int .i64 sz)).setCell ⟨B, 1, none⟩ (.slice A3 n3 c3)).setCell ⟨B + 1, 0, none⟩ (.bool b)).heap[B + 6]? = some (.deferred (some [])) := by
        rw [put_block (by omega) (by omega), hb3.block (B + 6) hDl]; exact hK
      have r0 := RA3.r0
      have r1 := RA3.r1
      have rb := RA3.rb
      have f0 := RA3.f0
      have f1 := RA3.f1
      have fb := RA3.fb
      have rb2 : ((w3.setCell ⟨B, 0, none⟩ (.int .i64 sz)).setCell ⟨B, 1, none⟩ (.slice A3 n3 c3)).cell? ⟨B + 1, 0, none⟩ = some (.bool false) := by
        rw [World.cell?_setCell_other _ _ _ _ (by simp), World.cell?_setCell_other _ _ _ _ (by simp)]; exact rb
      have fb2 : ((w3.setCell ⟨B, 0, none⟩ (.int .i64 sz)).setCell ⟨B, 1, none⟩ (.slice A3 n3 c3)).frozen? ⟨B + 1, 0, none⟩ = false := by rw [World.frozen?_setCell, World.frozen?_setCell]; exact fb
      have HK2 := Lib.hid hK2
      have R5 := Lib.hid (R4.out.turn (Turn.putObj _ (B + 6) (.deferred none) (show (fun k => k = B + 6) (B + 6) from rfl)) (by omega) (by omega))
      have HB5 := Lib.hid (HB4.out.trans (Below.mono (below_putD _ (B + 6) (.deferred none)) (by omega)))
      clear KF RA3 hb3 hb4 hbi hK hK2 p0 p1
      go_wp2
      refine ⟨by simp, .inl ⟨_, _, rfl, run_takeDeferred HK2.out, ?_⟩⟩
      refine ⟨.tuple #[.agg #[.int .i64 sz, .slice A3 n3 c3], .bool b], ?_, ?_⟩
      · simp [results, Tryz.f4, go_sem, R5.out.r0, R5.out.r1, R5.out.rb]
      · exact ⟨sz, A3, n3, c3, b, rfl, HBI.out, HB5.out⟩
    case stop =>
      rintro D cd pre W hD hpre ⟨rfl, hr, hb, hn⟩ hK
      obtain rfl : D = B + 6 := by omega
      clear hD
      have R5 := Lib.hid (hr.turn (Turn.putObj W (B + 6) (.deferred none) (show (fun k => k = B + 6) (B + 6) from rfl)) (by omega) (by omega))
      have HB5 := Lib.hid (hb.trans (Below.mono (below_putD W (B + 6) (.deferred none)) (by omega)))
      have HN := Lib.hid hn
      clear hr hb hn hseq
      gi_wp2
      refine ⟨by simp, .inl ⟨_, _, rfl, run_takeDeferred hK, ?_⟩⟩
      refine ⟨.tuple #[.agg #[.int .i64 0, .slice none 0 0], .bool false], ?_, ?_⟩
      · simp [results, Tryz.f4, go_sem, R5.out.r0, R5.out.r1, R5.out.rb]
      · exact ⟨0, none, 0, 0, false, rfl, ⟨(fun h => by cases h), fun h => (HN.out h).elim⟩, HB5.out⟩
end Go.Proofs.YtaanppihgldeaaaGreatDoor
