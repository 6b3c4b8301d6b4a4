/- WithRanking, the program's side. The ways to each winner, the program's side: waysTo. Lists without repetition: plain lemmas. No program is walked here. Rankings hold each candidate once: plain facts (as in Mkt.tpl; never import both). No program is walked here. The best reply: plain facts. -/
import Derived.Test.YtcjnjnegaoihoaaGreatW17
import Derived.Deep.Onto
import Derived.Test.YtcjnjnegaoihoaaGreatW02
import Derived.Test.YtcjnjnegaoihoaaGreatW03
namespace Go.Proofs.YtcjnjnegaoihoaaGreat
set_option linter.unusedSimpArgs false
set_option linter.unusedVariables false
set_option linter.unusedVariables false
open Go.RowKit

set_option maxRecDepth 100000 in
set_option maxHeartbeats 2000000 in
theorem implWithRanking (m : Int) (A : Option Addr) (n c : Nat) (vs : List Vt) (k : Nat) (B : Option Addr) (d : Nat) (r : List Int) (w : World) (h : VotesAt w A n vs) (hn : n ≤ 1048576) (hx : ∀ v ∈ vs, v.r.length ≤ 1048576) (hp : profOk m vs = true) (hk : k < n) (g : IntsAt w B r.length r) (hd : r.length ≤ d) (hr : rankOk m r = true) :
    Calls Tryz.prog 25 #[.agg #[.int .i64 m, .slice A n c], .int .i64 (k : Int), .slice B r.length d] w fun e w' => ∃ A' c', e = .returned (.tuple #[.agg #[.int .i64 m, .slice A' n c'], .bool true]) ∧ OwnV w' w.heap.size w'.heap.size (.slice A' n c') (setR vs k r) ∧ Below w.heap.size w w' := by
  have g00 := g
  obtain rfl := h.len
  have hB := alloc_below w (.cells #[.int .i64 m, .slice A vs.length c] 31)
  obtain ⟨x0, x1⟩ := PBox.new w m A vs.length c 31 rfl
  replace h := h.below hB
  generalize hw0 : w.alloc (.cells #[.int .i64 m, .slice A vs.length c] 31) = w0 at *
  have s0 : w0.heap.size = w.heap.size + 1 := by rw [← hw0]; simp
  have g0 := g00.below hB
  have rl : r.length ≤ 5 := by have := (rankOk_facts hr).2; omega
  have b1 := alloc_below w0 (.cells #[.int .i64 0, .slice none 0 0] 31)
  obtain ⟨r0, r1⟩ := PBox.new w0 0 none 0 0 31 rfl
  have rf0 := new_free w0 #[.int .i64 0, .slice none 0 0] 31 rfl 0
  have rf1 := new_free w0 #[.int .i64 0, .slice none 0 0] 31 rfl 1
  replace x0 := cell_carry b1 x0
  replace x1 := cell_carry b1 x1
  replace h := h.below b1
  replace g0 := g0.below b1
  replace hB := hB.trans (b1.mono hB.size)
  have s1 : (w0.alloc (.cells #[.int .i64 0, .slice none 0 0] 31)).heap.size = w.heap.size + 2 := by simp [s0]
  clear b1 g00 g
  generalize hw1 : w0.alloc (.cells #[.int .i64 0, .slice none 0 0] 31) = w1 at *
  have K := Lib.hid (implProfileOk m A vs.length c vs w1 h hn hx)
  rw [hp] at K
  have KR := Lib.hid (fun W hW => implRankingOk m B r.length d r W hW (by omega) hd)
  rw [hr] at KR
  have KC := Lib.hid (fun W hW => implClone m A vs.length c vs W hW hn hx)
  have hk1 : inB (k : Int) 0 ((vs.length : Int) - 1) = true := inB_iff.2 ⟨by omega, by omega⟩
  have ew : IntKind.i64.wrap ((vs.length : Int) - 1) = (vs.length : Int) - 1 := IntWalk.i64_in _ (by omega)
  have S0 := Lib.hid s0
  have S1 := Lib.hid s1
  clear hx hp hr s0 s1
  go_enter Tryz.func25, Tryz.ntmps25
  go_wp2_with fail
  (with_reducible refine K.out.mono ?_)
  rintro e w2 ⟨rfl, b2⟩
  have s2 := b2.size
  replace x0 := cell_carry b2 x0
  replace x1 := cell_carry b2 x1
  replace rf0 := (b2.frozen (p := ⟨w0.heap.size, 0, none⟩) (cell_lt r0)).trans rf0
  replace rf1 := (b2.frozen (p := ⟨w0.heap.size, 1, none⟩) (cell_lt r1)).trans rf1
  replace r0 := cell_carry b2 r0
  replace r1 := cell_carry b2 r1
  replace h := h.below b2
  replace g0 := g0.below b2
  replace hB := hB.trans (b2.mono hB.size)
  clear b2 K hw1 hw0
  go_wp2_with fail
  (with_reducible refine (within_any _ _ _ _).mono ?_)
  rintro e w3 ⟨rfl, rfl⟩
  rw [hk1]
  go_wp2_with fail
  (with_reducible refine (KR.out _ g0).mono ?_)
  rintro e w3 ⟨rfl, rfl⟩
  go_wp2_with fail
  (with_reducible refine (KC.out _ h).mono ?_)
  rintro e w3 ⟨A3, c3, rfl, o3, b3⟩
  have s3 := b3.size
  replace rf0 := (b3.frozen (p := ⟨w0.heap.size, 0, none⟩) (cell_lt r0)).trans rf0
  replace rf1 := (b3.frozen (p := ⟨w0.heap.size, 1, none⟩) (cell_lt r1)).trans rf1
  replace r0 := cell_carry b3 r0
  replace r1 := cell_carry b3 r1
  replace g0 := g0.below b3
  replace hB := hB.trans (b3.mono hB.size)
  obtain ⟨g3, rfl, g31, g32, g33⟩ := o3.head (show 0 < vs.length by omega)
  clear b3 KR KC h x0 x1
  have b4 := alloc_below w3 (.cells #[.int .i64 m, .slice (some ⟨g3, 0, none⟩) vs.length c3] 31)
  obtain ⟨z0, z1⟩ := PBox.new w3 m (some ⟨g3, 0, none⟩) vs.length c3 31 rfl
  have o4 := o3.alloc (.cells #[.int .i64 m, .slice (some ⟨g3, 0, none⟩) vs.length c3] 31)
  replace rf0 := old_free r0 rf0 (.cells #[.int .i64 m, .slice (some ⟨g3, 0, none⟩) vs.length c3] 31)
  replace rf1 := old_free r1 rf1 (.cells #[.int .i64 m, .slice (some ⟨g3, 0, none⟩) vs.length c3] 31)
  replace r0 := cell_carry b4 r0
  replace r1 := cell_carry b4 r1
  replace g0 := g0.below b4
  replace hB := hB.trans (b4.mono hB.size)
  have s4 : (w3.alloc (.cells #[.int .i64 m, .slice (some ⟨g3, 0, none⟩) vs.length c3] 31)).heap.size = w3.heap.size + 1 := by simp
  clear b4 o3
  generalize hw4 : w3.alloc (.cells #[.int .i64 m, .slice (some ⟨g3, 0, none⟩) vs.length c3] 31) = w4 at *
  go_wp2
  clear hw4
  obtain ⟨⟨u, cu⟩, fu⟩ := o4.cells k hk
  have kk : (k : Int) < (vs.length : Int) := by omega
  have g0d : IntsAt w4.drew B r.length r := g0
  have z1d : w4.drew.cell? ⟨w3.heap.size, 1, none⟩ = some (.slice (some ⟨g3, 0, none⟩) vs.length c3) := z1
  have z0d : w4.drew.cell? ⟨w3.heap.size, 0, none⟩ = some (.int .i64 m) := z0
  have o4d : OwnV w4.drew w2.heap.size w3.heap.size (.slice (some ⟨g3, 0, none⟩) vs.length c3) vs := o4
  have cud : w4.drew.cell? ⟨g3, k * 2, none⟩ = some u := cu
  have fud : w4.drew.frozen? ⟨g3, k * 2, none⟩ = false := fu
  have s4d : w4.drew.heap.size = w3.heap.size + 1 := s4
  go_region_law (first
    | (go_simp; go_at_call 47; (with_reducible refine (clone_any B _ d r _ g0d (by omega)).mono ?_); rintro er w8 ⟨A8, c8, rfl, o8, b8⟩; have z1_8 := cell_carry b8 z1d; have z0_8 := cell_carry b8 z0d; have cu8 := cell_carry b8 cud; have fu8 := (b8.frozen (p := ⟨g3, k * 2, none⟩) (cell_lt cud)).trans fud))
  all_goals
    have S8 := b8.size
    have o8b := o4d.belowW b8
    have hz8 : w3.heap.size ≤ w8.heap.size := by omega
    obtain ⟨O9, N9⟩ := o8b.stored (H := w8.heap.size) k hk o8 (by omega) (Nat.le_refl _) s3 hz8
    have nz : w3.heap.size ≠ g3 := by omega
    have q1 := N9.cell z1_8 (by show ¬ (_ ≤ w3.heap.size ∧ w3.heap.size < _); omega)
    have q0 := N9.cell z0_8 (by show ¬ (_ ≤ w3.heap.size ∧ w3.heap.size < _); omega)
    have S0' : w.heap.size < w0.heap.size := by have := S0.out; omega
    have S1' : w0.heap.size < w1.heap.size := by have h1 := S0.out; have h2 := S1.out; omega
    have r0' := N9.cell (cell_carry (w := w4.drew) b8 r0) (by show ¬ (_ ≤ w0.heap.size ∧ w0.heap.size < _); omega)
    have r1' := N9.cell (cell_carry (w := w4.drew) b8 r1) (by show ¬ (_ ≤ w0.heap.size ∧ w0.heap.size < _); omega)
    have f0' := N9.frozen (p := ⟨w0.heap.size, 0, none⟩) (cell_carry (w := w4.drew) b8 r0) ((b8.frozen (p := ⟨w0.heap.size, 0, none⟩) (cell_lt r0)).trans rf0) (by show ¬ (_ ≤ w0.heap.size ∧ w0.heap.size < _); omega)
    have f1' := N9.frozen (p := ⟨w0.heap.size, 1, none⟩) (cell_carry (w := w4.drew) b8 r1) ((b8.frozen (p := ⟨w0.heap.size, 1, none⟩) (cell_lt r1)).trans rf1) (by show ¬ (_ ≤ w0.heap.size ∧ w0.heap.size < _); omega)
    have HB9 : Below w.heap.size w (w8.setCell ⟨g3, k * 2, none⟩ (.slice A8 r.length c8)) := (hB.trans (((Below.refl _ w4).drew.trans b8).mono hB.size)).trans (N9.toBelow (by omega) (by omega))
    have z9 : (w8.setCell ⟨g3, k * 2, none⟩ (.slice A8 r.length c8)).heap.size = w8.heap.size := World.size_setCell _ _ _
    clear N9 o8b o4d
    generalize w8.setCell ⟨g3, k * 2, none⟩ (.slice A8 r.length c8) = w9 at *
    have E2 := Lib.hid (pair_set r0' r1' (.int .i64 m) (.slice (some ⟨g3, 0, none⟩) vs.length c3))
    have n1 : Only w0.heap.size (w0.heap.size + 1) w9 (w9.setCell ⟨w0.heap.size, 0, none⟩ (.int .i64 m)) := ⟨rfl, rfl, rfl, by simp [World.setCell], fun k _ hk => Below.heap_setCell _ _ _ _ (by simp; omega)⟩
    have n2 : Only w0.heap.size (w0.heap.size + 1) (w9.setCell ⟨w0.heap.size, 0, none⟩ (.int .i64 m)) ((w9.setCell ⟨w0.heap.size, 0, none⟩ (.int .i64 m)).setCell ⟨w0.heap.size, 1, none⟩ (.slice (some ⟨g3, 0, none⟩) vs.length c3)) := ⟨rfl, rfl, rfl, by simp [World.setCell], fun k _ hk => Below.heap_setCell _ _ _ _ (by simp; omega)⟩
    have n3 := n1.trans n2
    have n3s := n3.size
    have HO : Hid (OwnV ((w9.setCell ⟨w0.heap.size, 0, none⟩ (.int .i64 m)).setCell ⟨w0.heap.size, 1, none⟩ (.slice (some ⟨g3, 0, none⟩) vs.length c3)) w.heap.size ((w9.setCell ⟨w0.heap.size, 0, none⟩ (.int .i64 m)).setCell ⟨w0.heap.size, 1, none⟩ (.slice (some ⟨g3, 0, none⟩) vs.length c3)).heap.size (.slice (some ⟨g3, 0, none⟩) vs.length c3) (setR vs k r)) :=
      (O9.only n3 (.inr (by omega))).mono (by omega) (by omega)
    have HBB := Lib.hid (HB9.trans (n3.toBelow (by omega) (by omega)))
    clear n1 n2 n3 n3s S0' S1' O9 HB9 b8 o8 r0 r1 rf0 rf1 hB z1 z0 cu fu z1d z0d cud fud z1_8 z0_8 cu8 fu8
    go_wp2
    obtain ⟨e0, e1⟩ := E2.out
    exact bodyPost_ret (v := .tuple #[.agg #[.int .i64 m, .slice (some ⟨g3, 0, none⟩) vs.length c3], .bool true]) (by simp [results, Tryz.results25, go_sem, e0, e1]) rfl ⟨_, _, rfl, HO.out, HBB.out⟩
end Go.Proofs.YtcjnjnegaoihoaaGreat
namespace Go.Proofs.YtcjnjnegaoihoaaGreat
set_option linter.unusedSimpArgs false
set_option linter.unusedVariables false
set_option linter.unusedVariables false
open Go.RowKit

theorem setR_ok {m : Int} {vs : List Vt} {k : Nat} {r : List Int} (hp : profOk m vs = true) (hk : k < vs.length) (hr : rankOk m r = true) : profOk m (setR vs k r) = true := by
  have F := pf_of hp
  unfold profOk at hp ⊢
  rw [Bool.and_eq_true, Bool.and_eq_true, List.all_eq_true, decide_eq_true_eq] at hp ⊢
  refine ⟨⟨hp.1.1, by rw [setR_len]; exact hp.1.2⟩, fun v hv => ?_⟩
  rcases setR_mem hv with h | rfl
  · exact hp.2 v h
  · have h2 := hp.2 _ (vx_mem hk)
    unfold voteOk at h2 ⊢
    rw [Bool.and_eq_true] at h2 ⊢
    exact ⟨hr, h2.2⟩
theorem setR_small {m : Int} {vs : List Vt} {k : Nat} {r : List Int} (hx : ∀ v ∈ vs, v.r.length ≤ 1048576) (hr : rankOk m r = true) : ∀ v ∈ setR vs k r, v.r.length ≤ 1048576 := by
  intro v hv
  rcases setR_mem hv with h | rfl
  · exact hx v h
  · have := (rankOk_facts hr).2; show r.length ≤ _; omega
/-- who wins with ranking r in vote k -/
noncomputable def winWith (rule m : Int) (vs : List Vt) (k : Nat) (r : List Int) : Int := winnerR rule m (setR vs k r)
/-- of the first n rankings the first one by which a wins -/
def wayN (f : List Int → Int) (rs : List (List Int)) (n : Nat) (a : Int) : Option (List Int) := (rs.take n).find? (fun r => f r == a)
theorem wayN_succ {f : List Int → Int} {rs : List (List Int)} {n : Nat} (h : n < rs.length) (a : Int) : wayN f rs (n + 1) a = (wayN f rs n a).or (if f (rx rs n) == a then some (rx rs n) else none) := by
  unfold wayN
  have e : rs.take (n + 1) = rs.take n ++ [rx rs n] := by rw [List.take_succ_eq_append_getElem h, rx_lt h]
  rw [e, List.find?_append]
  congr 1
  rw [List.find?_cons]
  cases f (rx rs n) == a <;> rfl
/-- what lies at a place of the ways -/
def WayAt (w : World) (lo hi : Nat) (u : Value) : Option (List Int) → Prop
  | none => u = .slice none 0 0
  | some r => OwnI w lo hi u r ∧ 0 < r.length
theorem WayAt.keep {w w' : World} {lo hi : Nat} {u : Value} {o : Option (List Int)} (h : WayAt w lo hi u o) (hk : ∀ r, OwnI w lo hi u r → OwnI w' lo hi u r) : WayAt w' lo hi u o := by
  cases o with
  | none => exact h
  | some r => exact ⟨hk r h.1, h.2⟩
theorem WayAt.mono {w : World} {lo hi lo' hi' : Nat} {u : Value} {o : Option (List Int)} (h : WayAt w lo hi u o) (hl : lo' ≤ lo) (hh : hi ≤ hi') : WayAt w lo' hi' u o := by
  cases o with
  | none => exact h
  | some r => exact ⟨h.1.mono hl hh, h.2⟩
theorem WayAt.form {w : World} {lo hi : Nat} {u : Value} {o : Option (List Int)} (h : WayAt w lo hi u o) : (o = none ∧ u = .slice none 0 0) ∨ ∃ r g c, o = some r ∧ u = .slice (some ⟨g, 0, none⟩) r.length c ∧ OwnI w lo hi u r ∧ 0 < r.length := by
  cases o with
  | none => exact .inl ⟨rfl, h⟩
  | some r =>
    right
    obtain ⟨A, c, e, _⟩ := h.1.len
    have h1 := h.1
    rw [e] at h1
    obtain ⟨g, rfl, _, _⟩ := h1.head h.2
    exact ⟨r, g, c, rfl, e, h.1, h.2⟩
/-- the ways of the first n rankings lie in the slice v -/
def WaysAt (w : World) (lo hi l2 h2 : Nat) (v : Value) (M : Nat) (g : Int → Option (List Int)) : Prop :=
  ∃ us : List Value, w.ownsRow lo 26 1 v M us ∧ (∀ k, v.ownBlock = some k → k < hi) ∧ ∀ a, a < M → ∃ u, us[a]? = some u ∧ WayAt w l2 h2 u (g (a : Int))
theorem WaysAt.belowW {w w' : World} {lo hi l2 h2 M : Nat} {v : Value} {g : Int → Option (List Int)} (h : WaysAt w lo hi l2 h2 v M g) (b : Below w.heap.size w w') : WaysAt w' lo hi l2 h2 v M g := by
  obtain ⟨us, h1, h0, h3⟩ := h
  exact ⟨us, ownsRow_below h1 b, h0, fun a ha => by obtain ⟨u, e, hu⟩ := h3 a ha; exact ⟨u, e, hu.keep fun r o => o.belowW b⟩⟩
theorem WaysAt.congr {w : World} {lo hi l2 h2 M : Nat} {v : Value} {g g' : Int → Option (List Int)} (h : WaysAt w lo hi l2 h2 v M g) (e : ∀ a : Nat, a < M → g (a : Int) = g' (a : Int)) : WaysAt w lo hi l2 h2 v M g' := by
  obtain ⟨us, h1, h0, h3⟩ := h
  exact ⟨us, h1, h0, fun a ha => by obtain ⟨u, e1, hu⟩ := h3 a ha; exact ⟨u, e1, e a ha ▸ hu⟩⟩
theorem WaysAt.cell {w : World} {lo hi l2 h2 M c gb : Nat} {g : Int → Option (List Int)} (h : WaysAt w lo hi l2 h2 (.slice (some ⟨gb, 0, none⟩) M c) M g) (a : Nat) (ha : a < M) :
    ∃ u, w.cell? ⟨gb, a, none⟩ = some u ∧ w.frozen? ⟨gb, a, none⟩ = false ∧ WayAt w l2 h2 u (g (a : Int)) := by
  obtain ⟨us, h1, h0, h3⟩ := h
  obtain ⟨u, e, hu⟩ := h3 a ha
  exact ⟨u, by rw [World.ownsRow.cellAt h1 a (by omega)]; exact e, World.ownsRow.frozenAt h1 a, hu⟩
theorem WaysAt.store {w : World} {lo hi l2 h2 M c gb : Nat} {g g' : Int → Option (List Int)} {x : Value} {r : List Int} (h : WaysAt w lo hi l2 h2 (.slice (some ⟨gb, 0, none⟩) M c) M g) (y : Nat) (hy : y < M) (hx : OwnI w l2 h2 x r) (h0 : 0 < r.length) (hd : gb < l2)
    (e : ∀ a : Nat, a < M → g' (a : Int) = if a = y then some r else g (a : Int)) : WaysAt (w.setCell ⟨gb, y, none⟩ x) lo hi l2 h2 (.slice (some ⟨gb, 0, none⟩) M c) M g' ∧ Only gb (gb + 1) w (w.setCell ⟨gb, y, none⟩ x) := by
  obtain ⟨us, h1, hh, h3⟩ := h
  have hst := World.ownsRow.stored h1 y x
  have hon : Only gb (gb + 1) w (w.setCell ⟨gb, y, none⟩ x) := Only.of_grown hst.2 fun k e => by cases e; omega
  have hl : us.length = M := by have := h1.1; omega
  refine ⟨⟨us.set y x, hst.1, hh, fun a ha => ?_⟩, hon⟩
  by_cases ea : a = y
  · subst ea
    refine ⟨x, by rw [List.getElem?_set_self (by omega)], ?_⟩
    rw [e a ha, if_pos rfl]
    exact ⟨hx.only hon (.inr (by omega)), h0⟩
  · obtain ⟨u, e1, hu⟩ := h3 a ha
    refine ⟨u, by rw [List.getElem?_set_ne (by omega)]; exact e1, ?_⟩
    rw [e a ha, if_neg ea]
    exact hu.keep fun r o => o.only hon (.inr (by omega))
theorem wpList_make_ways {ops : Array Oper} {rest : List Oper} {o : Oper} {a : Act} {Q : Exit → Act → World → Prop} (w : World) (hg : o.guard = none) (l c : Operand) (hop : o.op = Op.makeSlice 59 l c) (n : Nat)
    (hl : a.eval l = .int .i64 (n : Int)) (hc : a.eval c = .int .i64 (n : Int)) (hn : n ≤ 1099511627776)
    (hK : ∀ w', w'.ownsRow w.heap.size 26 1 (.slice (some ⟨w.heap.size, 0, none⟩) n n) n (List.replicate n (.slice none 0 0)) → Below w.heap.size w w' → w'.heap.size = w.heap.size + 1 → wpList Tryz.prog ops Q rest (a.put o.dst (.slice (some ⟨w.heap.size, 0, none⟩) n n)) w') :
    wpList Tryz.prog ops Q (o :: rest) a w := by
  obtain ⟨i0, hi, hz0, hz1, hz2⟩ := info_parts infoR
  refine wpList_plain hg fun K hK' => ?_
  have hrun := run_make (P := Tryz.prog) w 59 26 i0 (.slice none 0 0) Tryz.underlying59 hi hz0 .i64 .i64 n n (by omega) (by omega) (by rw [hz2]; omega) (by omega)
  simp only [Int.toNat_natCast, hz1, Nat.mul_one] at hrun
  unfold Oper.wp
  simp [execOp, hop, hl, hc, hrun, Result.andThen]
  refine hK' _ _ (hK _ ?_ ((Below.refl _ _).alloc (Nat.le_refl _) _) (by simp))
  have h1 := World.ownsRow_lit (e := 26) (size := 1) (base := w.heap.size) w (madeCells #[Value.slice none 0 0] n) n (Nat.le_refl _) (by unfold maxLen; omega) (by simp [size_madeCells])
  rw [toList_madeCells_one] at h1
  simpa [Value.cells] using h1
noncomputable def waysF (rule m : Int) (vs : List Vt) (k : Nat) (a : Int) : Option (List Int) := wayN (winWith rule m vs k) (allRankings m) (allRankings m).length a
set_option maxRecDepth 100000 in
set_option maxHeartbeats 2000000 in
theorem implWaysTo (rule m : Int) (A : Option Addr) (n c : Nat) (vs : List Vt) (k : Nat) (w : World) (h : VotesAt w A n vs) (hn : n ≤ 1048576) (hx : ∀ v ∈ vs, v.r.length ≤ 1048576) (hp : profOk m vs = true) (hk : k < n) (r1 : 1 ≤ rule) (r13 : rule ≤ 13) :
    Calls Tryz.prog 44 #[.int .i64 rule, .agg #[.int .i64 m, .slice A n c], .int .i64 (k : Int)] w fun e w' => ∃ g c', e = .returned (.slice (some ⟨g, 0, none⟩) m.toNat c') ∧ WaysAt w' w.heap.size w'.heap.size w.heap.size w'.heap.size (.slice (some ⟨g, 0, none⟩) m.toNat c') m.toNat (waysF rule m vs k) ∧ Below w.heap.size w w' := by
  have hv0 := h
  obtain rfl := h.len
  have hB := alloc_below w (.cells #[.int .i64 m, .slice A vs.length c] 31)
  obtain ⟨x0, x1⟩ := PBox.new w m A vs.length c 31 rfl
  replace h := h.below hB
  generalize hw0 : w.alloc (.cells #[.int .i64 m, .slice A vs.length c] 31) = w0 at *
  have s00 := cell_lt x0
  have F := pf_of hp
  obtain ⟨M, rfl⟩ : ∃ M : Nat, m = (M : Int) := ⟨m.toNat, by have := F.m1; omega⟩
  have M1 : 1 ≤ M := by have := F.m1; omega
  have M5 : M ≤ 5 := by have := F.m5; omega
  rw [Int.toNat_natCast]
  have RO := Lib.hid (fun r (hr : r ∈ allRankings (M : Int)) => rank_all' F.m1 F.m5 hr)
  have R3 := allRankings_len (m := (M : Int))
  have KA := Lib.hid (fun W => implAllRankings (M : Int) W)
  have HF : Hid (waysF rule (M : Int) vs k = wayN (winWith rule (M : Int) vs k) (allRankings (M : Int)) (allRankings (M : Int)).length) := rfl
  have KW := Lib.hid (fun B d r W hW g hd hr => implWithRanking (M : Int) A vs.length c vs k B d r W hW hn hx hp hk g hd hr)
  have KB := Lib.hid (fun A' c' r W (hr : rankOk (M : Int) r = true) hW => implWinnerBy rule (M : Int) A' vs.length c' (setR vs k r) W hW hn (setR_small hx hr))
  have WB := Lib.hid (fun r (hr : rankOk (M : Int) r = true) => winner_bd (rule := rule) (setR_ok hp hk hr) r1 r13)
  generalize allRankings (M : Int) = rs at *
  clear hx hp F hk
  go_enter Tryz.func44, Tryz.ntmps44
  go_wp2_with (first | (at_make; refine wpList_make_ways _ rfl _ _ rfl M rfl rfl (by omega) ?_) | fail)
  intro w1 ho1 b1 z1
  have s0 := hB.size
  replace x0 := cell_carry b1 x0
  replace x1 := cell_carry b1 x1
  replace hB := hB.trans (b1.mono hB.size)
  have s1 := b1.size
  clear b1 h hw0
  go_wp2_with fail
  (with_reducible refine (KA.out _).mono ?_)
  rintro e w2 ⟨A2, c2, rfl, o2, b2⟩
  have s2 := b2.size
  replace x0 := cell_carry b2 x0
  replace x1 := cell_carry b2 x1
  replace hB := hB.trans (b2.mono hB.size)
  have ho2 := ownsRow_below ho1 b2
  have hW : WaysAt w2 w0.heap.size w1.heap.size w1.heap.size w2.heap.size (.slice (some ⟨w0.heap.size, 0, none⟩) M M) M (wayN (winWith rule (M : Int) vs k) rs 0) :=
    ⟨_, ho2, fun j e => by simp [Value.ownBlock] at e; omega, fun a ha => ⟨.slice none 0 0, by simp [ha], rfl⟩⟩
  clear b2 ho1 ho2 KA
  go_wp2
  go_loopw [9, 10, 11, 12, 20] (fun _ _ _ _ i wr => ∃ q : Nat, q ≤ rs.length ∧ i = .int .i64 q ∧ WaysAt wr w0.heap.size w1.heap.size w1.heap.size w2.heap.size (.slice (some ⟨w0.heap.size, 0, none⟩) M M) M (wayN (winWith rule (M : Int) vs k) rs q) ∧ Only w0.heap.size (w0.heap.size + 1) w2 wr) (fun _ _ _ _ i _ => rs.length - (intOf i).toNat)
  case atStart => exact ⟨0, Nat.zero_le _, rfl, hW, Only.refl _ _ _⟩
  case round =>
    clear hW
    obtain ⟨q, hq, rfl, hW, hon⟩ := hrel
    have hBr := hB.trans (hon.toBelow s0 hB.size)
    have sr := hon.size
    by_cases hlt : q < rs.length
    · obtain ⟨gR, rfl, _, _, _⟩ := o2.head (by omega)
      obtain ⟨_, Ax, cx, hcx, hox⟩ := o2.row q hlt
      have hcx2 := hon.cell hcx (by show ¬ (_ ≤ gR ∧ gR < _); omega)
      have hox2 := hox.only hon (.inr (by omega))
      have x0' := hon.cell x0 (by show ¬ (_ ≤ w.heap.size ∧ w.heap.size < _); omega)
      have x1' := hon.cell x1 (by show ¬ (_ ≤ w.heap.size ∧ w.heap.size < _); omega)
      have hr := RO.out _ (rx_mem hlt)
      have hrl : 0 < (rx rs q).length := by have := (rankOk_facts hr).2.2.1; omega
      have KW1 := Lib.hid (KW.out Ax cx (rx rs q) wr (hv0.below hBr) hox2.at_ hox2.ints.2.2.1 hr)
      have KB1 := Lib.hid (fun A' c' W hW => KB.out A' c' (rx rs q) W hr hW)
      have wb := WB.out _ hr
      have HST := Lib.hid (fun a => wayN_succ (f := winWith rule (M : Int) vs k) hlt a)
      have hwin : winWith rule (M : Int) vs k (rx rs q) = winnerR rule (M : Int) (setR vs k (rx rs q)) := rfl
      rw [hwin] at HST
      have HRL := Lib.hid hrl
      clear hwin hr hcx hox
      generalize rx rs q = r at *
      generalize winnerR rule (M : Int) (setR vs k r) = y at *
      obtain ⟨Y, rfl⟩ : ∃ Y : Nat, y = (Y : Int) := ⟨y.toNat, by omega⟩
      have hY : Y < M := by omega
      clear hrl
      go_wp2_with fail
      (with_reducible refine KW1.out.mono ?_)
      rintro e w4 ⟨A4, c4, rfl, o4, b4⟩
      have b5 := alloc_below w4 (.cells #[.int .i64 (M : Int), .slice A4 vs.length c4] 31)
      obtain ⟨z0, z1⟩ := PBox.new w4 (M : Int) A4 vs.length c4 31 rfl
      have o5 := o4.alloc (.cells #[.int .i64 (M : Int), .slice A4 vs.length c4] 31)
      have b45 := b4.trans (b5.mono b4.size)
      clear b4 b5 o4
      generalize hw5 : w4.alloc (.cells #[.int .i64 (M : Int), .slice A4 vs.length c4] 31) = w5 at *
      go_wp2_with fail
      (with_reducible refine (KB1.out A4 c4 _ o5.at_).mono ?_)
      rintro e w6 ⟨rfl, b6⟩
      have b46 := b45.trans (b6.mono b45.size)
      have hW6 := hW.belowW b46
      have hox6 := hox2.belowW b46
      have hon6 := hon.trans (Only.of_below (lo := w0.heap.size) (hi := w0.heap.size + 1) b46 (Nat.le_refl _))
      obtain ⟨u, cu, fu, hu⟩ := hW6.cell Y hY
      have yy : (Y : Int) < (M : Int) := by omega
      clear b45 b6 b46 o5 KW1 KB1 hw5 z0 z1 hox2 hcx2 x0' x1' hW hon
      rcases hu.form with ⟨hnone, rfl⟩ | ⟨rr, gg, cc, hsome, rfl, _, _⟩
      · have he := Lib.run_eql_slice_nil (P := Tryz.prog) w6 26 3 none 0 0 0 0 Tryz.underlying26
        simp only [Option.isNone_none] at he
        obtain ⟨hW7, on7⟩ := hW6.store (g' := wayN (winWith rule (M : Int) vs k) rs (q + 1)) Y hY hox6 HRL.out (by omega) (fun a ha => by
          rw [HST.out]
          by_cases e : a = Y
          · subst e
            rw [hnone, if_pos rfl]
            simp
          · rw [if_neg e, show ((Y : Int) == (a : Int)) = false by rw [beq_eq_false_iff_ne]; omega]
            simp)
        have HW7 := Lib.hid hW7
        have HO7 := Lib.hid (hon6.trans on7)
        clear hW7 on7 hW6 hox6 hon6 hnone hu
        go_wp2
        go_roundw
        case rel => exact ⟨q + 1, by omega, by go_num, HW7.out, HO7.out⟩
        case measure => simp [intOf]; omega
      · have he := Lib.run_eql_slice_nil (P := Tryz.prog) w6 26 3 (some ⟨gg, 0, none⟩) rr.length cc 0 0 Tryz.underlying26
        simp only [Option.isNone_some] at he
        have hW7 := hW6.congr (g' := wayN (winWith rule (M : Int) vs k) rs (q + 1)) (fun a ha => by
          rw [HST.out]
          by_cases e : a = Y
          · subst e; rw [hsome]; rfl
          · rw [show ((Y : Int) == (a : Int)) = false by rw [beq_eq_false_iff_ne]; omega]
            simp)
        have HW7 := Lib.hid hW7
        have HO7 := Lib.hid hon6
        clear hW7 hW6 hox6 hon6 hsome hu
        go_wp2
        go_roundw
        case rel => exact ⟨q + 1, by omega, by go_num, HW7.out, HO7.out⟩
        case measure => simp [intOf]; omega
    · obtain rfl : q = rs.length := by omega
      have HW : WaysAt wr w.heap.size wr.heap.size w.heap.size wr.heap.size (.slice (some ⟨w0.heap.size, 0, none⟩) M M) M (waysF rule (M : Int) vs k) := by
        obtain ⟨us, h1, h0, h3⟩ := hW
        rw [HF.out]
        exact ⟨us, World.ownsRow.mono h1 s0, fun j e => by have := h0 j e; omega, fun a ha => by obtain ⟨u, e1, hu⟩ := h3 a ha; exact ⟨u, e1, hu.mono (by omega) sr⟩⟩
      have HWW := Lib.hid HW
      clear HW hW
      go_wp2
      go_ret
      exact ⟨_, _, rfl, HWW.out, hBr⟩
end Go.Proofs.YtcjnjnegaoihoaaGreat
namespace Go.Proofs.YtcjnjnegaoihoaaGreat
set_option linter.unusedSimpArgs false
set_option linter.unusedVariables false
set_option linter.unusedVariables false
open Go.RowKit

theorem perm_of {α : Type} [DecidableEq α] : ∀ (m l : List α), m.Nodup → m ⊆ l → l.length ≤ m.length → l.Perm m
  | [], l, _, _, hl => by
    have : l = [] := List.eq_nil_of_length_eq_zero (by simpa using hl)
    rw [this]
  | a :: m, l, hn, hs, hl => by
    rw [List.nodup_cons] at hn
    have ha : a ∈ l := hs (by simp)
    have h1 := List.perm_cons_erase ha
    have h2 := perm_of m (l.erase a) hn.2 (fun x hx => by
      have hne : x ≠ a := fun e => hn.1 (e ▸ hx)
      exact (List.mem_erase_of_ne hne).2 (hs (by simp [hx]))) (by
      rw [List.length_erase_of_mem ha]
      simp at hl
      omega)
    exact h1.trans (h2.cons a)

theorem nodup_to {xs : List Int} : ∀ k, k ≤ xs.length → (allN (fun i => !has (xs.take i) (ix xs i)) k = true ↔ (xs.take k).Nodup) := by
  intro k hk
  induction k with
  | zero => simp [allN]
  | succ k ih =>
    rw [take_ix (by omega), List.nodup_append]
    simp only [allN, Bool.and_eq_true, ih (by omega), Bool.not_eq_true', has_not]
    constructor
    · rintro ⟨h1, h2⟩
      exact ⟨h1, by simp, fun a ha b hb e => by simp at hb; subst hb; subst e; exact h2 ha⟩
    · rintro ⟨h1, _, h3⟩
      exact ⟨h1, fun h => h3 _ h _ (by simp) rfl⟩
theorem nodup_iff {xs : List Int} : allN (fun i => !has (xs.take i) (ix xs i)) xs.length = true ↔ xs.Nodup := by
  rw [nodup_to _ (Nat.le_refl _), List.take_length]

/-- the numbers below n but one -/
def othersN (n i : Nat) : List Int := ((List.range n).erase i).map fun (j : Nat) => (j : Int)
theorem othersN_mem {n i : Nat} {x : Int} : x ∈ othersN n i ↔ 0 ≤ x ∧ x < n ∧ x ≠ i := by
  unfold othersN
  rw [List.mem_map]
  constructor
  · rintro ⟨j, hj, rfl⟩
    have h1 := List.mem_of_mem_erase hj
    rw [List.mem_range] at h1
    have h2 : j ≠ i := fun e => by
      subst e
      exact (List.nodup_range.not_mem_erase) hj
    omega
  · rintro ⟨h1, h2, h3⟩
    exact ⟨x.toNat, (List.mem_erase_of_ne (by omega)).2 (by rw [List.mem_range]; omega), by omega⟩
theorem othersN_len {n i : Nat} (h : i < n) : (othersN n i).length = n - 1 := by
  unfold othersN
  rw [List.length_map, List.length_erase_of_mem (by simpa using h), List.length_range]
theorem othersN_nodup (n i : Nat) : (othersN n i).Nodup := by
  unfold othersN
  refine List.Pairwise.map _ (fun a b h e => h (by omega)) ((List.nodup_range).erase i)
end Go.Proofs.YtcjnjnegaoihoaaGreat
namespace Go.Proofs.YtcjnjnegaoihoaaGreat
set_option linter.unusedSimpArgs false
set_option linter.unusedVariables false
set_option linter.unusedVariables false
open Go.RowKit

theorem rank_nodup {m : Int} {xs : List Int} (h : rankOk m xs = true) : xs.Nodup := by
  unfold rankOk at h
  rw [Bool.and_eq_true, rankTo_iff] at h
  rw [← nodup_iff, allN_iff]
  intro k hk
  rw [Bool.not_eq_true', has_not]
  exact (h.2 k hk).2
/-- a ranking holds each of the first numbers -/
theorem rank_perm {n : Nat} {xs : List Int} (h : rankOk n xs = true) : ((List.range n).map fun (j : Nat) => (j : Int)).Perm xs := by
  obtain ⟨_, _, h3, h4⟩ := rankOk_facts h
  have hl : xs.length = n := by omega
  refine perm_of xs _ (rank_nodup h) ?_ (by simp [hl])
  intro x hx
  obtain ⟨i, hi, rfl⟩ := List.getElem_of_mem hx
  have := h4 i hi
  rw [ix_lt hi] at this
  exact List.mem_map.2 ⟨xs[i].toNat, by rw [List.mem_range]; omega, by omega⟩
theorem rank_has {n : Nat} {xs : List Int} (h : rankOk n xs = true) {x : Int} (h0 : 0 ≤ x) (h1 : x < n) : x ∈ xs :=
  (rank_perm h).mem_iff.1 (List.mem_map.2 ⟨x.toNat, by rw [List.mem_range]; omega, by omega⟩)
theorem rank_place {n : Nat} {xs : List Int} (h : rankOk n xs = true) {x : Int} (h0 : 0 ≤ x) (h1 : x < n) : 0 ≤ place xs x ∧ place xs x < n := by
  have := place_mem.2 (rank_has h h0 h1)
  have := place_bd xs x
  have := (rankOk_facts h).2.2.1
  omega

structure MatchF (xss yss : List (List Int)) (zs : List Int) : Prop where
  lo : 1 ≤ xss.length
  hi : xss.length ≤ 5
  wl : yss.length = xss.length
  zl : zs.length = xss.length
  rank : rankOk xss.length zs = true
  mr : ∀ i, i < xss.length → rankOk xss.length (rx xss i) = true
  wr : ∀ i, i < xss.length → rankOk xss.length (rx yss i) = true
  z : ∀ i, i < xss.length → 0 ≤ ix zs i ∧ ix zs i < xss.length
structure MarketF (xss yss : List (List Int)) : Prop where
  lo : 1 ≤ xss.length
  hi : xss.length ≤ 5
  wl : yss.length = xss.length
  mr : ∀ i, i < xss.length → rankOk xss.length (rx xss i) = true
  wr : ∀ i, i < xss.length → rankOk xss.length (rx yss i) = true
theorem market_facts {xss yss : List (List Int)} (h : marketOk xss yss = true) : MarketF xss yss := by
  unfold marketOk listsOk at h
  simp only [Bool.and_eq_true, inB_iff, decide_eq_true_eq, List.all_eq_true] at h
  obtain ⟨⟨⟨h1, h2⟩, h3⟩, h4⟩ := h
  exact ⟨by omega, by omega, by omega, fun i hi => h3 _ (rx_mem hi), fun i hi => h4 _ (rx_mem (by omega))⟩
theorem match_facts {xss yss : List (List Int)} {zs : List Int} (h : matchOk xss yss zs = true) : MatchF xss yss zs := by
  unfold matchOk at h
  rw [Bool.and_eq_true] at h
  obtain ⟨f1, f2, f3, f4, f5⟩ := market_facts h.1
  have r := rankOk_facts h.2
  exact ⟨f1, f2, f3, by omega, h.2, f4, f5, fun i hi => r.2.2.2 i (by omega)⟩
theorem rank_len {n : Nat} {xs : List Int} (h : rankOk n xs = true) : xs.length = n := by have := (rankOk_facts h).2.2.1; omega

/-- in no place does the second matching give a man one whom he prefers -/
def atLeast (xss yss : List (List Int)) (us vs : List Int) : Bool := matchOk xss yss us && matchOk xss yss vs && allN (fun i => !pref (rx xss i) (ix vs i) (ix us i)) xss.length
end Go.Proofs.YtcjnjnegaoihoaaGreat
namespace Go.Proofs.YtcjnjnegaoihoaaGreat
set_option linter.unusedSimpArgs false
set_option linter.unusedVariables false
set_option linter.unusedVariables false
open Go.RowKit

/-- every candidate is in a ranking -/
theorem rank_in {m : Int} {xs : List Int} (h : rankOk m xs = true) {a : Int} (h0 : 0 ≤ a) (h1 : a < m) : a ∈ xs := by
  obtain ⟨M, rfl⟩ : ∃ M : Nat, m = (M : Int) := ⟨m.toNat, by omega⟩
  exact rank_has h h0 h1
noncomputable def reachB (rule m : Int) (vs : List Vt) (k : Nat) (a : Int) : Bool := (waysF rule m vs k a).isSome
noncomputable def replyI (rule m : Int) (vs : List Vt) (k : Nat) (truth : List Int) : Nat := (idxP (reachB rule m vs k) truth 0).toNat
noncomputable def replyW (rule m : Int) (vs : List Vt) (k : Nat) (truth : List Int) : Int := ix truth (replyI rule m vs k truth)
noncomputable def replyR (rule m : Int) (vs : List Vt) (k : Nat) (truth : List Int) : List Int := (waysF rule m vs k (replyW rule m vs k truth)).getD []
theorem waysF_some {rule m : Int} {vs : List Vt} {k : Nat} {a : Int} {r : List Int} (h : waysF rule m vs k a = some r) : r ∈ allRankings m ∧ winWith rule m vs k r = a := by
  unfold waysF wayN at h
  rw [List.take_length] at h
  exact ⟨List.mem_of_find?_eq_some h, by have := List.find?_some h; simpa using this⟩
theorem reach_of {rule m : Int} {vs : List Vt} {k : Nat} {r : List Int} (h : r ∈ allRankings m) : reachB rule m vs k (winWith rule m vs k r) = true := by
  unfold reachB waysF wayN
  rw [List.take_length, List.find?_isSome]
  exact ⟨r, h, by simp⟩
structure ReplyF (rule m : Int) (vs : List Vt) (k : Nat) (truth : List Int) : Prop where
  idx : idxP (reachB rule m vs k) truth 0 = (replyI rule m vs k truth : Nat)
  lt : replyI rule m vs k truth < truth.length
  way : waysF rule m vs k (replyW rule m vs k truth) = some (replyR rule m vs k truth)
  ok : rankOk m (replyR rule m vs k truth) = true
  win : winnerR rule m (setR vs k (replyR rule m vs k truth)) = replyW rule m vs k truth
theorem reply_facts {rule m : Int} {vs : List Vt} {k : Nat} {truth : List Int} (hp : profOk m vs = true) (hk : k < vs.length) (r1 : 1 ≤ rule) (r13 : rule ≤ 13) (ht : rankOk m truth = true) : ReplyF rule m vs k truth := by
  have F := pf_of hp
  have h0 := rank_some F.m1 F.m5
  have hm := rx_mem h0
  have hw := winner_bd (rule := rule) (setR_ok hp hk (rank_all' F.m1 F.m5 hm)) r1 r13
  have hr := reach_of (rule := rule) (vs := vs) (k := k) hm
  have hin := rank_in ht hw.1 hw.2
  have h1 := idxP_ge (reachB rule m vs k) truth 0
  rw [List.drop_zero] at h1
  have h2 : truth.any (reachB rule m vs k) = true := List.any_eq_true.2 ⟨_, hin, hr⟩
  rw [h2] at h1
  have h3 := of_decide_eq_true h1.symm
  have h4 := idxP_bd (reachB rule m vs k) truth 0
  have e1 : idxP (reachB rule m vs k) truth 0 = (replyI rule m vs k truth : Nat) := by unfold replyI; omega
  have e2 : replyI rule m vs k truth < truth.length := by omega
  have e3 : reachB rule m vs k (replyW rule m vs k truth) = true := by
    unfold replyW
    exact h4.elim (fun h => absurd h (by omega)) fun h => by have := h.2.2; unfold replyI; exact this
  have e4 : waysF rule m vs k (replyW rule m vs k truth) = some (replyR rule m vs k truth) := by
    unfold replyR
    unfold reachB at e3
    obtain ⟨r, hr⟩ := Option.isSome_iff_exists.1 e3
    rw [hr]; rfl
  obtain ⟨e5, e6⟩ := waysF_some e4
  exact ⟨e1, e2, e4, rank_all' F.m1 F.m5 e5, e6⟩
end Go.Proofs.YtcjnjnegaoihoaaGreat
