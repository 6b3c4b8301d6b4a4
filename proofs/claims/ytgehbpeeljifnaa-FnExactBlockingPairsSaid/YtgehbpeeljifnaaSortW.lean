/- The reference puts pairs in order: its walk; and the pairs that block a matching, both sides. -/
import Derived.Test.YtgehbpeeljifnaaSortP
namespace Go.Proofs.Ytgehbpeeljifnaa
set_option linter.unusedVariables false
open Go.RowKit

theorem coll_eq (f : Nat → Bool) (g : Nat → List Int) (k : Nat) : coll f g k = ((List.range k).filter f).map g := by
  induction k with
  | zero => rfl
  | succ k ih =>
    rw [List.range_succ, List.filter_append, List.map_append]
    cases hf : f k
    · rw [coll_no hf, ih]; simp [hf]
    · rw [coll_yes hf, ih]; simp [hf]
theorem coll_perm {f : Nat → Bool} {g : Nat → List Int} {r : Nat → Nat} {n : Nat} (h : ((List.range n).map r).Perm (List.range n)) : (coll f g n).Perm (coll (fun k => f (r k)) (fun k => g (r k)) n) := by
  rw [coll_eq, coll_eq]
  have h2 := ((h.filter f).map g).symm
  rw [List.filter_map, List.map_map] at h2
  exact h2
theorem coll_sorted {f : Nat → Bool} {i k : Nat} : (coll f (pairG i) k).Pairwise fun x y => keyOf x < keyOf y := by
  induction k with
  | zero => simp [coll]
  | succ k ih =>
    cases hf : f k
    · rw [coll_no hf]; exact ih
    · rw [coll_yes hf, List.pairwise_append]
      refine ⟨ih, by simp, fun a ha b hb => ?_⟩
      rw [List.mem_singleton] at hb
      subst hb
      obtain ⟨j, hj, _, rfl⟩ := coll_mem ha
      simp [keyOf, pairG, ix]
      omega
theorem collTo_sorted {f : Nat → Nat → Bool} {n i : Nat} (hn : n ≤ 100) : (collTo f pairG n i).Pairwise fun x y => keyOf x < keyOf y := by
  induction i with
  | zero => simp [collTo]
  | succ i ih =>
    rw [collTo, List.pairwise_append]
    refine ⟨ih, coll_sorted, fun a ha b hb => ?_⟩
    obtain ⟨p, q, h1, h2, _, rfl⟩ := collTo_mem ha
    obtain ⟨j, hj, _, rfl⟩ := coll_mem hb
    simp [keyOf, pairG, ix]
    omega
theorem row_perm {n : Nat} {xs : List Int} (h : rankOk n xs = true) : ((List.range n).map fun k => (ix xs k).toNat).Perm (List.range n) := by
  have h1 := rank_perm h
  have hl := rank_len h
  have h2 := h1.map Int.toNat
  rw [List.map_map] at h2
  have e1 : (List.range n).map (Int.toNat ∘ fun (j : Nat) => (j : Int)) = List.range n := by
    have : (Int.toNat ∘ fun (j : Nat) => (j : Int)) = id := by funext j; simp
    rw [this, List.map_id]
  have e2 : xs.map Int.toNat = (List.range n).map fun k => (ix xs k).toNat := by
    refine List.ext_getElem (by simp [hl]) fun j h3 h4 => ?_
    have : j < xs.length := by simpa using h3
    simp [ix_lt this]
  rw [e1, e2] at h2
  exact h2.symm
theorem blocks_perm {xss yss : List (List Int)} {zs : List Int} (F : MatchF xss yss zs) : (blocksM xss yss zs).Perm (blocksS xss yss zs) := by
  have zl := F.zl
  have key : ∀ i, i ≤ zs.length → (collTo (blockF xss yss zs) pairG zs.length i).Perm (collTo (blockS xss yss zs) (pairS xss) zs.length i) := by
    intro i
    induction i with
    | zero => intro _; exact List.Perm.refl _
    | succ i ih =>
      intro hi
      rw [collTo, collTo]
      refine (ih (by omega)).append ?_
      exact coll_perm (f := blockF xss yss zs i) (g := pairG i) (r := fun k => (ix (rx xss i) k).toNat) (by rw [zl]; exact row_perm (F.mr i (by omega)))
  exact key _ (Nat.le_refl _)
theorem blocksS_small {xss yss : List (List Int)} {zs : List Int} (F : MatchF xss yss zs) : ∀ x ∈ blocksS xss yss zs, small2 x := by
  intro x hx
  have hx2 := (blocks_perm F).mem_iff.2 hx
  have zl := F.zl
  have h5 := F.hi
  obtain ⟨a, b, h1, h2, _, rfl⟩ := collTo_mem hx2
  refine ⟨rfl, ?_, ?_⟩ <;> simp [pairG, ix] <;> omega
theorem blocksM_sorted {xss yss : List (List Int)} {zs : List Int} (F : MatchF xss yss zs) : (blocksM xss yss zs).Pairwise fun x y => keyOf x < keyOf y := by
  have zl := F.zl
  have h5 := F.hi
  exact collTo_sorted (by omega)

theorem RowsV.lt {w : World} {lo hi B : Nat} {us : List Value} {xss : List (List Int)} (h : RowsV w lo hi us xss) {w' : World} (hb : Below B w w') (hB : hi ≤ B) : RowsV w' lo hi us xss :=
  ⟨h.1, fun i hi => by obtain ⟨u, e, ho⟩ := h.2.1 i hi; exact ⟨u, e, ho.below hb hB⟩, h.2.2⟩
theorem ownsRow_form {w : World} {lo n : Nat} {v : Value} {vs : List Value} (h : w.ownsRow lo 22 1 v n vs) (hv : ∃ g m c, v = .slice (some ⟨g, 0, none⟩) m c) : ∃ g c, v = .slice (some ⟨g, 0, none⟩) n c ∧ n ≤ c ∧ lo ≤ g ∧ g < w.heap.size ∧ vs.length = n ∧ ∀ j, j < n → w.cell? ⟨g, j, none⟩ = vs[j]? := by
  obtain ⟨g0, m0, c0, e0⟩ := hv
  have hl : vs.length = n := by have := h.1; omega
  rcases h.2 with ⟨rfl, h0⟩ | ⟨g, cap, cur, rfl, hb, hg, hc, _⟩
  · cases e0
  · exact ⟨g, cap, rfl, hc, hb, (Array.getElem?_eq_some_iff.1 hg).1, hl, fun j hj => World.ownsRow.cellAt h j (by omega)⟩
theorem ownsRow_base {w : World} {lo lo' n : Nat} {v : Value} {vs : List Value} (h : w.ownsRow lo 22 1 v n vs) (hl : lo' ≤ lo) : w.ownsRow lo' 22 1 v n vs := by
  refine ⟨h.1, ?_⟩
  rcases h.2 with h0 | ⟨g, cap, cur, hv, hgb, r⟩
  · exact .inl h0
  · exact .inr ⟨g, cap, cur, hv, Nat.le_trans hl hgb, r⟩
theorem ownsRow_grown {w w' : World} {lo n : Nat} {v : Value} {vs : List Value} {row : Option Nat} (h : w.ownsRow lo 22 1 v n vs) (hg : w.grownBy w' row) (hr : ∀ k, row = some k → v.ownBlock ≠ some k) : w'.ownsRow lo 22 1 v n vs := by
  refine ⟨h.1, ?_⟩
  rcases h.2 with h0 | ⟨g, cap, cur, hv, hgb, hg', r⟩
  · exact .inl h0
  · exact .inr ⟨g, cap, cur, hv, hgb, by rw [hg.block g (Array.getElem?_eq_some_iff.1 hg').1 (fun e => hr g e.symm (by rw [hv]; rfl))]; exact hg', r⟩
theorem ownsRow_some {w : World} {lo n c : Nat} {A : Option Addr} {vs : List Value} (h : w.ownsRow lo 22 1 (.slice A n c) n vs) (hn : 0 < n) : ∃ g, A = some ⟨g, 0, none⟩ := by
  rcases h.2 with ⟨e, h0⟩ | ⟨g, cap, cur, hv, _⟩
  · omega
  · cases hv; exact ⟨g, rfl⟩
theorem RowsV.left {w : World} {lo hi : Nat} {a b : List Value} {c d : List (List Int)} (h : RowsV w lo hi (a ++ b) (c ++ d)) (hl : a.length = c.length) : RowsV w lo hi a c := by
  have := h.take a.length
  rwa [List.take_left, hl, List.take_left] at this
set_option maxRecDepth 100000 in
set_option maxHeartbeats 80000000 in
theorem l17Sort_any (A : Option Addr) (n c : Nat) (xss T : List (List Int)) (lo hi : Nat) (w : World) (h : OwnR w lo hi (.slice A n c) xss) (hhi : hi ≤ w.heap.size) (hlo : lo ≤ w.heap.size) (hn : n ≤ 60) (hm : ∀ x ∈ xss, small2 x) (hp : T.Perm xss) (hs : T.Pairwise fun x y => keyOf x < keyOf y) :
    Calls Try.prog 58 #[.slice A n c] w fun e w' => ∃ A' c', e = .returned (.slice A' T.length c') ∧ OwnR w' lo w'.heap.size (.slice A' T.length c') T ∧ Below w.heap.size w w' := by
  obtain ⟨rfl, _⟩ := h.num
  obtain ⟨us, ha1, ha2, hV⟩ := ownR_iff.1 h
  have hl := hV.1
  have HD := Lib.hid (sort_done (T := T) hl hm hp hs)
  have HS := Lib.hid hV.sorted
  have HM := Lib.hid hm
  have HZM := Lib.hid (fun k => (fun y hy => by
    obtain ⟨q, hq, rfl⟩ := List.mem_map.1 hy
    exact hm _ (List.of_mem_zip (List.mem_of_mem_take ((sortTo_perm _ k).subset hq))).2 : ∀ y ∈ (sortTo (us.zip xss) k).map Prod.snd, small2 y))
  have HSL := Lib.hid (fun k => @sortTo_len (us.zip xss) k)
  have hzl : (us.zip xss).length = xss.length := by simp; omega
  have HZL := Lib.hid hzl
  have HST := Lib.hid (fun k (hk : k < xss.length) (u : Value) (hu : us[k]? = some u) => (show sortTo (us.zip xss) (k + 1) = insP (sortTo (us.zip xss) k) (u, rx xss k) by
    simp only [sortTo]
    have : (us.zip xss)[k]? = some (u, rx xss k) := by
      obtain ⟨h1, h2⟩ := List.getElem?_eq_some_iff.1 hu
      rw [List.getElem?_eq_getElem (by rw [hzl]; exact hk)]
      simp [h2, rx_lt hk]
    rw [this]))
  clear hm hp hs hl hzl
  generalize us.zip xss = Z at *
  go_enter Try.func58, Try.ntmps58
  go_wp2
  go_loopw [3, 5, 6, 7, 11] (fun v _ _ _ i wr => ∃ (k : Nat) (A' : Option Addr) (c' : Nat), k ≤ xss.length ∧ i = .int .i64 k ∧ v = .slice A' k c' ∧ (∃ g, A' = some ⟨g, 0, none⟩) ∧ wr.ownsRow w.heap.size 22 1 (.slice A' k c') k ((sortTo Z k).map Prod.fst) ∧ Below w.heap.size w wr) (fun _ _ _ _ i _ => xss.length - (intOf i).toNat)
  case atStart => exact ⟨0, _, 0, Nat.zero_le _, rfl, rfl, ⟨_, rfl⟩, World.ownsRow_lit (e := 22) (size := 1) (base := w.heap.size) w #[] 0 (Nat.le_refl _) (by unfold maxLen; omega) rfl, (Below.refl _ _).alloc (Nat.le_refl _) _⟩
  case round =>
    obtain ⟨i, A1, cc, hi1, rfl, rfl, ⟨gg, rfl⟩, hown, hb⟩ := hrel
    obtain ⟨wo, rfl⟩ : ∃ wo, wo = wr := ⟨_, rfl⟩
    have zr := hb.size
    by_cases hlt : i < xss.length
    · obtain ⟨g, rfl, hg1, hg2, hg3⟩ := h.head (by omega)
      obtain ⟨_, Ax, cx, hcx, hox⟩ := h.row i hlt
      have hu : us[i]? = some (.slice Ax (rx xss i).length cx) := by rw [← World.ownsRow.cellAt ha1 i (by omega)]; exact hcx
      have HT := Lib.hid (HST.out i hlt _ hu)
      have hcx2 := cell_carry hb hcx
      have hm2 := HM.out _ (rx_mem hlt)
      have hSV := (HS.out i).lt hb hhi
      have hlen := HSL.out i (by rw [HZL.out]; omega)
      have hxat := (hox.below hb hhi).at_
      obtain ⟨gg', cc', eg, hcc, hgl, hgs, hvl, hcells⟩ := ownsRow_form hown ⟨_, _, _, rfl⟩
      cases eg
      obtain ⟨ys, hys⟩ : ∃ ys, ys = (sortTo Z i).map Prod.snd := ⟨_, rfl⟩
      obtain ⟨vs, hvs⟩ : ∃ vs, vs = (sortTo Z i).map Prod.fst := ⟨_, rfl⟩
      rw [← hys, ← hvs] at hSV
      rw [← hvs] at hvl hcells hown
      have hyl : ys.length = i := by rw [hys, List.length_map]; exact hlen
      have hIN : sortTo Z (i + 1) = insP (sortTo Z i) (.slice Ax (rx xss i).length cx, rx xss i) := HT.out
      have hfst : (sortTo Z (i + 1)).map Prod.fst = vs.take (pos ys (rx xss i)) ++ [Value.slice Ax (rx xss i).length cx] ++ vs.drop (pos ys (rx xss i)) := by
        rw [hIN]; unfold insP; rw [List.map_append, List.map_append, List.map_take, List.map_drop, ← hys, ← hvs]; rfl
      have hsnd : (sortTo Z (i + 1)).map Prod.snd = ys.take (pos ys (rx xss i)) ++ [rx xss i] ++ ys.drop (pos ys (rx xss i)) := by
        rw [hIN]; unfold insP; rw [List.map_append, List.map_append, List.map_take, List.map_drop, ← hys]; rfl
      have HF := Lib.hid hfst
      have HSN := Lib.hid hsnd
      have HRM := Lib.hid (HZM.out i)
      rw [← hys] at HRM
      have HCL := Lib.hid hcells
      have x0 := hox.below hb hhi
      obtain ⟨hx2, hx3, hx4⟩ := hm2
      have HX2 := Lib.hid hx2
      have xl1 : (0 : Int) < ((rx xss i).length : Int) := by omega
      have xl2 : (1 : Int) < ((rx xss i).length : Int) := by omega
      clear hfst hsnd hIN hx2 hx3 hx4 HT hcells hys hvs hcx hox
      go_wp2
      go_loopw [6] (fun k_ wr => ∃ k m : Nat, k ≤ pos ys (rx xss i) ∧ k_ = .int .i64 k ∧ Hid (wr = wo.drewN m)) (fun k_ _ => i - (intOf k_).toNat)
      case atStart => exact ⟨0, 0, Nat.zero_le _, rfl, rfl⟩
      case round =>
        obtain ⟨k, m, hk, rfl, HWR⟩ := hrel
        have hpl := pos_le ys (rx xss i)
        by_cases hki : k < i
        · obtain ⟨u, eu, ou⟩ := hSV.2.1 k (by omega)
          obtain ⟨Au, cu, rfl, _⟩ := ou.len
          have hck : wr.cell? ⟨gg, k, none⟩ = some (.slice Au (rx ys k).length cu) := by rw [HWR.out, ← eu]; exact HCL.out k hki
          have hr2 := HRM.out _ (rx_mem (show k < ys.length by omega))
          have oa := ou.at_
          have hr20 := hr2.1
          obtain ⟨ba, oo, rfl, _, hca⟩ := oa.at_ (show 0 < (rx ys k).length by omega)
          obtain ⟨bx, ox, eax, _, hcb⟩ := hxat.at_ (show 0 < (rx xss i).length by have := HX2.out; omega)
          cases eax
          have a0c : wr.cell? ⟨ba, oo, none⟩ = some (.int .i64 (ix (rx ys k) 0)) := by rw [HWR.out]; simpa using hca 0 (by omega)
          have a1c : wr.cell? ⟨ba, oo + 1, none⟩ = some (.int .i64 (ix (rx ys k) 1)) := by rw [HWR.out]; exact hca 1 (by omega)
          have b0c : wr.cell? ⟨bx, ox, none⟩ = some (.int .i64 (ix (rx xss i) 0)) := by rw [HWR.out]; simpa using hcb 0 (by have := HX2.out; omega)
          have b1c : wr.cell? ⟨bx, ox + 1, none⟩ = some (.int .i64 (ix (rx xss i) 1)) := by rw [HWR.out]; exact hcb 1 (by have := HX2.out; omega)
          have yl1 : (0 : Int) < ((rx ys k).length : Int) := by omega
          have yl2 : (1 : Int) < ((rx ys k).length : Int) := by omega
          have kk1 : (0 : Int) ≤ (k : Int) := by omega
          have kk2 : (k : Int) < (i : Int) := by omega
          have HPL : Hid (pairLt (rx ys k) (rx xss i) = (decide (ix (rx ys k) 0 < ix (rx xss i) 0) || (ix (rx ys k) 0 == ix (rx xss i) 0 && decide (ix (rx ys k) 1 < ix (rx xss i) 1)))) := rfl
          clear hr20 hr2 oa hca hcb eu ou
          generalize ix (rx ys k) 0 = a0 at *
          generalize ix (rx ys k) 1 = a1 at *
          generalize ix (rx xss i) 0 = b0 at *
          generalize ix (rx xss i) 1 = b1 at *
          by_cases h0 : a0 < b0
          · have HK1 := Lib.hid (pos_more hk (by omega) (by rw [HPL.out, decide_eq_true h0]; rfl))
            go_wp2
            go_quiet (fail)
            go_wp2
            go_roundw
            case rel => first | exact ⟨k + 1, m + nq, HK1.out, by go_num, by show _ = _; rw [HWR.out, World.drewN_drewN]⟩ | ((repeat apply Exists.intro); exact ⟨⟨k + 1, m + nq, HK1.out, by go_num, by show _ = _; rw [HWR.out, World.drewN_drewN]⟩, rfl⟩)
            case measure => simp [intOf]; omega
          by_cases h1 : a0 = b0
          · subst h1
            have e00 : (a0 == a0) = true := by simp
            by_cases h2 : a1 < b1
            · have HK1 := Lib.hid (pos_more hk (by omega) (by rw [HPL.out, decide_eq_true h2]; simp))
              go_wp2
              go_quiet (fail)
              go_wp2
              go_roundw
              case rel => first | exact ⟨k + 1, m + nq, HK1.out, by go_num, by show _ = _; rw [HWR.out, World.drewN_drewN]⟩ | ((repeat apply Exists.intro); exact ⟨⟨k + 1, m + nq, HK1.out, by go_num, by show _ = _; rw [HWR.out, World.drewN_drewN]⟩, rfl⟩)
              case measure => simp [intOf]; omega
            have HPOS : Hid (pos ys (rx xss i) = k) := pos_stop hk (by rw [HPL.out, decide_eq_false h2, decide_eq_false h0]; simp)
            clear hk
            go_wp2
            go_quiet (fail)
            clear hck a0c a1c b0c b1c
            have hw5 : wr.drewN nq = wo.drewN (m + nq) := by rw [HWR.out, World.drewN_drewN]
            have HM5 := Lib.hid hw5
            clear hw5
            generalize wr.drewN nq = w5 at *
            have hown5 : w5.ownsRow w.heap.size 22 1 (.slice (some ⟨gg, 0, none⟩) i cc) i vs := by rw [HM5.out]; exact hown
            have hcells5 : ∀ j, j < i → w5.cell? ⟨gg, j, none⟩ = vs[j]? := by rw [HM5.out]; exact HCL.out
            have hb5 : Below w.heap.size w w5 := by rw [HM5.out]; exact below_drewN hb _
            have hfull : RowsV w5 lo hi (vs.take k ++ [Value.slice (some ⟨bx, ox, none⟩) (rx xss i).length cx] ++ vs.drop k) (ys.take k ++ [rx xss i] ++ ys.drop k) := by
              have h1 := (HS.out (i + 1)).lt hb5 hhi
              rw [HF.out, HSN.out, HPOS.out] at h1
              exact h1
            have hgs5 : gg < w5.heap.size := by rw [HM5.out]; exact hgs
            have z5 := hb5.size
            have b6 := (Below.refl w5.heap.size w5).alloc (Nat.le_refl _) (.cells #[] 22)
            have e6 := World.size_alloc w5 (.cells #[] 22)
            have r6 : (w5.alloc (.cells #[] 22)).ownsRow w.heap.size 22 1 (.slice (some ⟨w5.heap.size, 0, none⟩) 0 0) 0 [] := World.ownsRow_lit (e := 22) (size := 1) (base := w.heap.size) w5 #[] 0 z5 (by unfold maxLen; omega) rfl
            have HC6 : Hid (∀ j, j < k → ∃ b o, (some ⟨gg, 0, none⟩ : Option Addr) = some ⟨b, o, none⟩ ∧ (w5.alloc (.cells #[] 22)).cell? ⟨b, o + j, none⟩ = (vs.take k)[j]?) := fun j hj => ⟨gg, 0, rfl, by rw [Nat.zero_add, List.getElem?_take_of_lt hj, ← hcells5 j (by omega)]; exact b6.cell (p := ⟨gg, j, none⟩) hgs5⟩
            have HV6 : Hid (RowsV (w5.alloc (.cells #[] 22)) lo hi ([] ++ vs.take k) (ys.take k)) := by
              have h1 := (hfull.left (by simp; omega)).left (by simp; omega)
              exact h1.lt b6 (by omega)
            have k1 : (0 : Int) ≤ (k : Int) := by omega
            have k2 : (k : Int) ≤ (cc : Int) := by omega
            have k3 : (k : Int) ≤ (i : Int) := by omega
            have hb6 := hb5.trans (b6.mono z5)
            have HFULL := Lib.hid hfull
            have HC5 := Lib.hid hcells5
            have hlt1 : (vs.take k).length = k := by rw [List.length_take]; omega
            have HLT := Lib.hid hlt1
            clear hfull hcells5 hlt1 b6
            go_wp2_with (at_builtin; refine wpList_append_rowsV _ rfl _ _ rfl w.heap.size 0 0 _ [] rfl r6 (some ⟨gg, 0, none⟩) k cc (vs.take k) (ys.take k) lo hi rfl HC6.out HV6.out HLT.out (by omega) (by omega) ?_)
            intro A7 c7 w7 o7 v7 g7 hat7
            have HNE : Hid (∀ j, (Value.slice A7 k c7).ownBlock = some j → w5.heap.size ≤ j) := by
              intro j e
              rcases hat7 with h | h
              · (try rw [Nat.zero_add] at h); rw [h] at e; first | (have := Option.some.inj e; omega) | (simp [Value.ownBlock] at e; omega)
              · (try rw [Nat.zero_add] at h); rw [h] at e; first | (have := Option.some.inj e; omega) | (simp [Value.ownBlock] at e; omega)
            try rw [Nat.zero_add] at o7
            have hb7 := below_of_below hb6 g7 (fun j e => (World.ownsRow.lt r6 j e).1)
            have hown7 : w7.ownsRow w.heap.size 22 1 (.slice (some ⟨gg, 0, none⟩) i cc) i vs := by
              have h1 := ownsRow_below hown5 ((Below.refl w5.heap.size w5).alloc (Nat.le_refl _) (.cells #[] 22))
              exact ownsRow_grown h1 g7 (fun j e => by simp [Value.ownBlock] at e ⊢; omega)
            have z7 := hb7.size
            clear r6 hat7 g7 v7 hb6 HC6 HV6 hown5
            have b8 := (Below.refl w7.heap.size w7).alloc (Nat.le_refl _) (.cells #[.slice (some ⟨bx, ox, none⟩) (rx xss i).length cx] 22)
            have e8 := World.size_alloc w7 (.cells #[.slice (some ⟨bx, ox, none⟩) (rx xss i).length cx] 22)
            have o8 := ownsRow_below o7 b8
            have hown8 := ownsRow_below hown7 b8
            have hb8 := hb7.trans (b8.mono z7)
            have hc8 := new_cell w7 (.slice (some ⟨bx, ox, none⟩) (rx xss i).length cx) 22 rfl
            have HC8 : Hid (∀ j, j < 1 → ∃ b o, (some ⟨w7.heap.size, 0, none⟩ : Option Addr) = some ⟨b, o, none⟩ ∧ (w7.alloc (.cells #[.slice (some ⟨bx, ox, none⟩) (rx xss i).length cx] 22)).cell? ⟨b, o + j, none⟩ = [Value.slice (some ⟨bx, ox, none⟩) (rx xss i).length cx][j]?) := by
              intro j hj
              obtain rfl : j = 0 := by omega
              exact ⟨w7.heap.size, 0, rfl, hc8⟩
            have HV8 : Hid (RowsV (w7.alloc (.cells #[.slice (some ⟨bx, ox, none⟩) (rx xss i).length cx] 22)) lo hi ([] ++ vs.take k ++ [Value.slice (some ⟨bx, ox, none⟩) (rx xss i).length cx]) (ys.take k ++ [rx xss i])) := by
              have h1 := (HS.out (i + 1)).lt hb8 hhi
              rw [HF.out, HSN.out, HPOS.out] at h1
              exact h1.left (by simp; omega)
            clear hc8 b8 o7 hown7 hb7
            go_wp2_with (at_builtin; refine wpList_append_rowsV _ rfl _ _ rfl w.heap.size k c7 A7 ([] ++ vs.take k) rfl o8 (some ⟨w7.heap.size, 0, none⟩) 1 1 [Value.slice (some ⟨bx, ox, none⟩) (rx xss i).length cx] _ lo hi rfl HC8.out HV8.out rfl (by omega) (by omega) ?_)
            intro A9 c9 w9 o9 v9 g9 hat9
            have hb9 := below_of_below hb8 g9 (fun j e => (World.ownsRow.lt o8 j e).1)
            have hown9 : w9.ownsRow w.heap.size 22 1 (.slice (some ⟨gg, 0, none⟩) i cc) i vs := ownsRow_grown hown8 g9 (fun j e => by have := HNE.out j e; simp [Value.ownBlock]; omega)
            have hcells9 : ∀ j, j < i → w9.cell? ⟨gg, j, none⟩ = vs[j]? := fun j hj => World.ownsRow.cellAt hown9 j (by omega)
            have z9 := hb9.size
            have HV9 : Hid (RowsV w9 lo hi ([] ++ vs.take k ++ [Value.slice (some ⟨bx, ox, none⟩) (rx xss i).length cx] ++ vs.drop k) (ys.take k ++ [rx xss i] ++ ys.drop k)) := by
              have h1 := (HS.out (i + 1)).lt hb9 hhi
              rw [HF.out, HSN.out, HPOS.out] at h1
              exact h1
            have HDL : Hid ((vs.drop k).length = i - k) := by show _ = _; rw [List.length_drop]; omega
            have HKI : Hid (k + 1 + (i - k) = i + 1) := by show _ = _; omega
            clear hat9 g9 v9 o8 hown8 hb8 HC8 HV8 HNE
            by_cases hcap : cc = k
            · have HCV : Hid (∀ j, j < i - k → ∃ b o, (some ⟨gg, 0, none⟩ : Option Addr) = some ⟨b, o, none⟩ ∧ w9.cell? ⟨b, o + j, none⟩ = (vs.drop k)[j]?) := fun j hj => by omega
              clear hcells9
              go_wp2_with (at_builtin; refine wpList_append_rowsV _ rfl _ _ rfl w.heap.size (k + 1) c9 A9 ([] ++ vs.take k ++ [Value.slice (some ⟨bx, ox, none⟩) (rx xss i).length cx]) rfl o9 (some ⟨gg, 0, none⟩) (i - k) (cc - k) (vs.drop k) _ lo hi (by simp [Act.eval, Act.put, hcap]) HCV.out HV9.out HDL.out (by omega) (by omega) ?_)
              intro A11 c11 w11 o11 v11 g11 hat11
              have hb11 := below_of_below hb9 g11 (fun j e => (World.ownsRow.lt o9 j e).1)
              (try rw [HKI.out] at o11)
              have e11 : w11.ownsRow w.heap.size 22 1 (.slice A11 (i + 1) c11) (i + 1) ((sortTo Z (i + 1)).map Prod.fst) := by rw [HF.out, HPOS.out]; simpa using o11
              clear o11
              have o11 := e11
              obtain ⟨gn, hgn⟩ := ownsRow_some o11 (by omega)
              have HGN := Lib.hid hgn
              clear hat11 g11 v11 o9 hown9 hb9 HV9 HCV e11 hgn
              go_wp2
              go_roundw
              case rel => first | exact ⟨i + 1, _, _, by omega, by go_num, by rw [← HKI.out], ⟨gn, HGN.out⟩, o11, hb11⟩ | ((repeat apply Exists.intro); exact ⟨⟨i + 1, _, _, by omega, by go_num, by rw [← HKI.out], ⟨gn, HGN.out⟩, o11, hb11⟩, rfl⟩)
              case measure => simp [intOf]; omega
            · have HCV : Hid (∀ j, j < i - k → ∃ b o, (some ⟨gg, k, none⟩ : Option Addr) = some ⟨b, o, none⟩ ∧ w9.cell? ⟨b, o + j, none⟩ = (vs.drop k)[j]?) := fun j hj => ⟨gg, k, rfl, by rw [List.getElem?_drop]; exact hcells9 (k + j) (by omega)⟩
              have hcap2 : ¬ (k = cc) := fun e => hcap e.symm
              clear hcells9
              go_wp2_with (at_builtin; refine wpList_append_rowsV _ rfl _ _ rfl w.heap.size (k + 1) c9 A9 ([] ++ vs.take k ++ [Value.slice (some ⟨bx, ox, none⟩) (rx xss i).length cx]) rfl o9 (some ⟨gg, k, none⟩) (i - k) (cc - k) (vs.drop k) _ lo hi (by simp [Act.eval, Act.put, hcap]) HCV.out HV9.out HDL.out (by omega) (by omega) ?_)
              intro A11 c11 w11 o11 v11 g11 hat11
              have hb11 := below_of_below hb9 g11 (fun j e => (World.ownsRow.lt o9 j e).1)
              (try rw [HKI.out] at o11)
              have e11 : w11.ownsRow w.heap.size 22 1 (.slice A11 (i + 1) c11) (i + 1) ((sortTo Z (i + 1)).map Prod.fst) := by rw [HF.out, HPOS.out]; simpa using o11
              clear o11
              have o11 := e11
              obtain ⟨gn, hgn⟩ := ownsRow_some o11 (by omega)
              have HGN := Lib.hid hgn
              clear hat11 g11 v11 o9 hown9 hb9 HV9 HCV e11 hgn
              go_wp2
              go_roundw
              case rel => first | exact ⟨i + 1, _, _, by omega, by go_num, by rw [← HKI.out], ⟨gn, HGN.out⟩, o11, hb11⟩ | ((repeat apply Exists.intro); exact ⟨⟨i + 1, _, _, by omega, by go_num, by rw [← HKI.out], ⟨gn, HGN.out⟩, o11, hb11⟩, rfl⟩)
              case measure => simp [intOf]; omega
          have e00 : (a0 == b0) = false := by rw [beq_eq_false_iff_ne]; exact h1
          have HPOS : Hid (pos ys (rx xss i) = k) := pos_stop hk (by rw [HPL.out, decide_eq_false h0, e00]; simp)
          have yn1 : 0 < (rx ys k).length := by omega
          have yn2 : 1 < (rx ys k).length := by omega
          have xn1 : 0 < (rx xss i).length := by omega
          have xn2 : 1 < (rx xss i).length := by omega
          have d0 : decide (a0 < b0) = false := decide_eq_false h0
          clear h0 h1 yn1 yn2 xn1 xn2
          clear hk
          go_wp2
          go_quiet (fail)
          clear hck a0c a1c b0c b1c
          have hw5 : wr.drewN nq = wo.drewN (m + nq) := by rw [HWR.out, World.drewN_drewN]
          have HM5 := Lib.hid hw5
          clear hw5
          generalize wr.drewN nq = w5 at *
          have hown5 : w5.ownsRow w.heap.size 22 1 (.slice (some ⟨gg, 0, none⟩) i cc) i vs := by rw [HM5.out]; exact hown
          have hcells5 : ∀ j, j < i → w5.cell? ⟨gg, j, none⟩ = vs[j]? := by rw [HM5.out]; exact HCL.out
          have hb5 : Below w.heap.size w w5 := by rw [HM5.out]; exact below_drewN hb _
          have hfull : RowsV w5 lo hi (vs.take k ++ [Value.slice (some ⟨bx, ox, none⟩) (rx xss i).length cx] ++ vs.drop k) (ys.take k ++ [rx xss i] ++ ys.drop k) := by
            have h1 := (HS.out (i + 1)).lt hb5 hhi
            rw [HF.out, HSN.out, HPOS.out] at h1
            exact h1
          have hgs5 : gg < w5.heap.size := by rw [HM5.out]; exact hgs
          have z5 := hb5.size
          have b6 := (Below.refl w5.heap.size w5).alloc (Nat.le_refl _) (.cells #[] 22)
          have e6 := World.size_alloc w5 (.cells #[] 22)
          have r6 : (w5.alloc (.cells #[] 22)).ownsRow w.heap.size 22 1 (.slice (some ⟨w5.heap.size, 0, none⟩) 0 0) 0 [] := World.ownsRow_lit (e := 22) (size := 1) (base := w.heap.size) w5 #[] 0 z5 (by unfold maxLen; omega) rfl
          have HC6 : Hid (∀ j, j < k → ∃ b o, (some ⟨gg, 0, none⟩ : Option Addr) = some ⟨b, o, none⟩ ∧ (w5.alloc (.cells #[] 22)).cell? ⟨b, o + j, none⟩ = (vs.take k)[j]?) := fun j hj => ⟨gg, 0, rfl, by rw [Nat.zero_add, List.getElem?_take_of_lt hj, ← hcells5 j (by omega)]; exact b6.cell (p := ⟨gg, j, none⟩) hgs5⟩
          have HV6 : Hid (RowsV (w5.alloc (.cells #[] 22)) lo hi ([] ++ vs.take k) (ys.take k)) := by
            have h1 := (hfull.left (by simp; omega)).left (by simp; omega)
            exact h1.lt b6 (by omega)
          have k1 : (0 : Int) ≤ (k : Int) := by omega
          have k2 : (k : Int) ≤ (cc : Int) := by omega
          have k3 : (k : Int) ≤ (i : Int) := by omega
          have hb6 := hb5.trans (b6.mono z5)
          have HFULL := Lib.hid hfull
          have HC5 := Lib.hid hcells5
          have hlt1 : (vs.take k).length = k := by rw [List.length_take]; omega
          have HLT := Lib.hid hlt1
          clear hfull hcells5 hlt1 b6
          go_wp2_with (at_builtin; refine wpList_append_rowsV _ rfl _ _ rfl w.heap.size 0 0 _ [] rfl r6 (some ⟨gg, 0, none⟩) k cc (vs.take k) (ys.take k) lo hi rfl HC6.out HV6.out HLT.out (by omega) (by omega) ?_)
          intro A7 c7 w7 o7 v7 g7 hat7
          have HNE : Hid (∀ j, (Value.slice A7 k c7).ownBlock = some j → w5.heap.size ≤ j) := by
            intro j e
            rcases hat7 with h | h
            · (try rw [Nat.zero_add] at h); rw [h] at e; first | (have := Option.some.inj e; omega) | (simp [Value.ownBlock] at e; omega)
            · (try rw [Nat.zero_add] at h); rw [h] at e; first | (have := Option.some.inj e; omega) | (simp [Value.ownBlock] at e; omega)
          try rw [Nat.zero_add] at o7
          have hb7 := below_of_below hb6 g7 (fun j e => (World.ownsRow.lt r6 j e).1)
          have hown7 : w7.ownsRow w.heap.size 22 1 (.slice (some ⟨gg, 0, none⟩) i cc) i vs := by
            have h1 := ownsRow_below hown5 ((Below.refl w5.heap.size w5).alloc (Nat.le_refl _) (.cells #[] 22))
            exact ownsRow_grown h1 g7 (fun j e => by simp [Value.ownBlock] at e ⊢; omega)
          have z7 := hb7.size
          clear r6 hat7 g7 v7 hb6 HC6 HV6 hown5
          have b8 := (Below.refl w7.heap.size w7).alloc (Nat.le_refl _) (.cells #[.slice (some ⟨bx, ox, none⟩) (rx xss i).length cx] 22)
          have e8 := World.size_alloc w7 (.cells #[.slice (some ⟨bx, ox, none⟩) (rx xss i).length cx] 22)
          have o8 := ownsRow_below o7 b8
          have hown8 := ownsRow_below hown7 b8
          have hb8 := hb7.trans (b8.mono z7)
          have hc8 := new_cell w7 (.slice (some ⟨bx, ox, none⟩) (rx xss i).length cx) 22 rfl
          have HC8 : Hid (∀ j, j < 1 → ∃ b o, (some ⟨w7.heap.size, 0, none⟩ : Option Addr) = some ⟨b, o, none⟩ ∧ (w7.alloc (.cells #[.slice (some ⟨bx, ox, none⟩) (rx xss i).length cx] 22)).cell? ⟨b, o + j, none⟩ = [Value.slice (some ⟨bx, ox, none⟩) (rx xss i).length cx][j]?) := by
            intro j hj
            obtain rfl : j = 0 := by omega
            exact ⟨w7.heap.size, 0, rfl, hc8⟩
          have HV8 : Hid (RowsV (w7.alloc (.cells #[.slice (some ⟨bx, ox, none⟩) (rx xss i).length cx] 22)) lo hi ([] ++ vs.take k ++ [Value.slice (some ⟨bx, ox, none⟩) (rx xss i).length cx]) (ys.take k ++ [rx xss i])) := by
            have h1 := (HS.out (i + 1)).lt hb8 hhi
            rw [HF.out, HSN.out, HPOS.out] at h1
            exact h1.left (by simp; omega)
          clear hc8 b8 o7 hown7 hb7
          go_wp2_with (at_builtin; refine wpList_append_rowsV _ rfl _ _ rfl w.heap.size k c7 A7 ([] ++ vs.take k) rfl o8 (some ⟨w7.heap.size, 0, none⟩) 1 1 [Value.slice (some ⟨bx, ox, none⟩) (rx xss i).length cx] _ lo hi rfl HC8.out HV8.out rfl (by omega) (by omega) ?_)
          intro A9 c9 w9 o9 v9 g9 hat9
          have hb9 := below_of_below hb8 g9 (fun j e => (World.ownsRow.lt o8 j e).1)
          have hown9 : w9.ownsRow w.heap.size 22 1 (.slice (some ⟨gg, 0, none⟩) i cc) i vs := ownsRow_grown hown8 g9 (fun j e => by have := HNE.out j e; simp [Value.ownBlock]; omega)
          have hcells9 : ∀ j, j < i → w9.cell? ⟨gg, j, none⟩ = vs[j]? := fun j hj => World.ownsRow.cellAt hown9 j (by omega)
          have z9 := hb9.size
          have HV9 : Hid (RowsV w9 lo hi ([] ++ vs.take k ++ [Value.slice (some ⟨bx, ox, none⟩) (rx xss i).length cx] ++ vs.drop k) (ys.take k ++ [rx xss i] ++ ys.drop k)) := by
            have h1 := (HS.out (i + 1)).lt hb9 hhi
            rw [HF.out, HSN.out, HPOS.out] at h1
            exact h1
          have HDL : Hid ((vs.drop k).length = i - k) := by show _ = _; rw [List.length_drop]; omega
          have HKI : Hid (k + 1 + (i - k) = i + 1) := by show _ = _; omega
          clear hat9 g9 v9 o8 hown8 hb8 HC8 HV8 HNE
          by_cases hcap : cc = k
          · have HCV : Hid (∀ j, j < i - k → ∃ b o, (some ⟨gg, 0, none⟩ : Option Addr) = some ⟨b, o, none⟩ ∧ w9.cell? ⟨b, o + j, none⟩ = (vs.drop k)[j]?) := fun j hj => by omega
            clear hcells9
            go_wp2_with (at_builtin; refine wpList_append_rowsV _ rfl _ _ rfl w.heap.size (k + 1) c9 A9 ([] ++ vs.take k ++ [Value.slice (some ⟨bx, ox, none⟩) (rx xss i).length cx]) rfl o9 (some ⟨gg, 0, none⟩) (i - k) (cc - k) (vs.drop k) _ lo hi (by simp [Act.eval, Act.put, hcap]) HCV.out HV9.out HDL.out (by omega) (by omega) ?_)
            intro A11 c11 w11 o11 v11 g11 hat11
            have hb11 := below_of_below hb9 g11 (fun j e => (World.ownsRow.lt o9 j e).1)
            (try rw [HKI.out] at o11)
            have e11 : w11.ownsRow w.heap.size 22 1 (.slice A11 (i + 1) c11) (i + 1) ((sortTo Z (i + 1)).map Prod.fst) := by rw [HF.out, HPOS.out]; simpa using o11
            clear o11
            have o11 := e11
            obtain ⟨gn, hgn⟩ := ownsRow_some o11 (by omega)
            have HGN := Lib.hid hgn
            clear hat11 g11 v11 o9 hown9 hb9 HV9 HCV e11 hgn
            go_wp2
            go_roundw
            case rel => first | exact ⟨i + 1, _, _, by omega, by go_num, by rw [← HKI.out], ⟨gn, HGN.out⟩, o11, hb11⟩ | ((repeat apply Exists.intro); exact ⟨⟨i + 1, _, _, by omega, by go_num, by rw [← HKI.out], ⟨gn, HGN.out⟩, o11, hb11⟩, rfl⟩)
            case measure => simp [intOf]; omega
          · have HCV : Hid (∀ j, j < i - k → ∃ b o, (some ⟨gg, k, none⟩ : Option Addr) = some ⟨b, o, none⟩ ∧ w9.cell? ⟨b, o + j, none⟩ = (vs.drop k)[j]?) := fun j hj => ⟨gg, k, rfl, by rw [List.getElem?_drop]; exact hcells9 (k + j) (by omega)⟩
            have hcap2 : ¬ (k = cc) := fun e => hcap e.symm
            clear hcells9
            go_wp2_with (at_builtin; refine wpList_append_rowsV _ rfl _ _ rfl w.heap.size (k + 1) c9 A9 ([] ++ vs.take k ++ [Value.slice (some ⟨bx, ox, none⟩) (rx xss i).length cx]) rfl o9 (some ⟨gg, k, none⟩) (i - k) (cc - k) (vs.drop k) _ lo hi (by simp [Act.eval, Act.put, hcap]) HCV.out HV9.out HDL.out (by omega) (by omega) ?_)
            intro A11 c11 w11 o11 v11 g11 hat11
            have hb11 := below_of_below hb9 g11 (fun j e => (World.ownsRow.lt o9 j e).1)
            (try rw [HKI.out] at o11)
            have e11 : w11.ownsRow w.heap.size 22 1 (.slice A11 (i + 1) c11) (i + 1) ((sortTo Z (i + 1)).map Prod.fst) := by rw [HF.out, HPOS.out]; simpa using o11
            clear o11
            have o11 := e11
            obtain ⟨gn, hgn⟩ := ownsRow_some o11 (by omega)
            have HGN := Lib.hid hgn
            clear hat11 g11 v11 o9 hown9 hb9 HV9 HCV e11 hgn
            go_wp2
            go_roundw
            case rel => first | exact ⟨i + 1, _, _, by omega, by go_num, by rw [← HKI.out], ⟨gn, HGN.out⟩, o11, hb11⟩ | ((repeat apply Exists.intro); exact ⟨⟨i + 1, _, _, by omega, by go_num, by rw [← HKI.out], ⟨gn, HGN.out⟩, o11, hb11⟩, rfl⟩)
            case measure => simp [intOf]; omega
        · obtain rfl : k = i := by omega
          have HPOS : Hid (pos ys (rx xss k) = k) := by have := pos_end (ys := ys) (x := rx xss k) (by omega); show _ = _; omega
          clear hk hki
          go_wp2
          go_quiet (fail)
          have hw5 : wr.drewN nq = wo.drewN (m + nq) := by rw [HWR.out, World.drewN_drewN]
          have HM5 := Lib.hid hw5
          clear hw5
          generalize wr.drewN nq = w5 at *
          have hown5 : w5.ownsRow w.heap.size 22 1 (.slice (some ⟨gg, 0, none⟩) k cc) k vs := by rw [HM5.out]; exact hown
          have hcells5 : ∀ j, j < k → w5.cell? ⟨gg, j, none⟩ = vs[j]? := by rw [HM5.out]; exact HCL.out
          have hb5 : Below w.heap.size w w5 := by rw [HM5.out]; exact below_drewN hb _
          have hfull : RowsV w5 lo hi (vs.take k ++ [Value.slice Ax (rx xss k).length cx] ++ vs.drop k) (ys.take k ++ [rx xss k] ++ ys.drop k) := by
            have h1 := (HS.out (k + 1)).lt hb5 hhi
            rw [HF.out, HSN.out, HPOS.out] at h1
            exact h1
          have hgs5 : gg < w5.heap.size := by rw [HM5.out]; exact hgs
          have z5 := hb5.size
          have b6 := (Below.refl w5.heap.size w5).alloc (Nat.le_refl _) (.cells #[] 22)
          have e6 := World.size_alloc w5 (.cells #[] 22)
          have r6 : (w5.alloc (.cells #[] 22)).ownsRow w.heap.size 22 1 (.slice (some ⟨w5.heap.size, 0, none⟩) 0 0) 0 [] := World.ownsRow_lit (e := 22) (size := 1) (base := w.heap.size) w5 #[] 0 z5 (by unfold maxLen; omega) rfl
          have HC6 : Hid (∀ j, j < k → ∃ b o, (some ⟨gg, 0, none⟩ : Option Addr) = some ⟨b, o, none⟩ ∧ (w5.alloc (.cells #[] 22)).cell? ⟨b, o + j, none⟩ = (vs.take k)[j]?) := fun j hj => ⟨gg, 0, rfl, by rw [Nat.zero_add, List.getElem?_take_of_lt hj, ← hcells5 j (by omega)]; exact b6.cell (p := ⟨gg, j, none⟩) hgs5⟩
          have HV6 : Hid (RowsV (w5.alloc (.cells #[] 22)) lo hi ([] ++ vs.take k) (ys.take k)) := by
            have h1 := (hfull.left (by simp; omega)).left (by simp; omega)
            exact h1.lt b6 (by omega)
          have k1 : (0 : Int) ≤ (k : Int) := by omega
          have k2 : (k : Int) ≤ (cc : Int) := by omega
          have k3 : (k : Int) ≤ (k : Int) := by omega
          have hb6 := hb5.trans (b6.mono z5)
          have HFULL := Lib.hid hfull
          have HC5 := Lib.hid hcells5
          have hlt1 : (vs.take k).length = k := by rw [List.length_take]; omega
          have HLT := Lib.hid hlt1
          clear hfull hcells5 hlt1 b6
          go_wp2_with (at_builtin; refine wpList_append_rowsV _ rfl _ _ rfl w.heap.size 0 0 _ [] rfl r6 (some ⟨gg, 0, none⟩) k cc (vs.take k) (ys.take k) lo hi rfl HC6.out HV6.out HLT.out (by omega) (by omega) ?_)
          intro A7 c7 w7 o7 v7 g7 hat7
          have HNE : Hid (∀ j, (Value.slice A7 k c7).ownBlock = some j → w5.heap.size ≤ j) := by
            intro j e
            rcases hat7 with h | h
            · (try rw [Nat.zero_add] at h); rw [h] at e; first | (have := Option.some.inj e; omega) | (simp [Value.ownBlock] at e; omega)
            · (try rw [Nat.zero_add] at h); rw [h] at e; first | (have := Option.some.inj e; omega) | (simp [Value.ownBlock] at e; omega)
          try rw [Nat.zero_add] at o7
          have hb7 := below_of_below hb6 g7 (fun j e => (World.ownsRow.lt r6 j e).1)
          have hown7 : w7.ownsRow w.heap.size 22 1 (.slice (some ⟨gg, 0, none⟩) k cc) k vs := by
            have h1 := ownsRow_below hown5 ((Below.refl w5.heap.size w5).alloc (Nat.le_refl _) (.cells #[] 22))
            exact ownsRow_grown h1 g7 (fun j e => by simp [Value.ownBlock] at e ⊢; omega)
          have z7 := hb7.size
          clear r6 hat7 g7 v7 hb6 HC6 HV6 hown5
          have b8 := (Below.refl w7.heap.size w7).alloc (Nat.le_refl _) (.cells #[.slice Ax (rx xss k).length cx] 22)
          have e8 := World.size_alloc w7 (.cells #[.slice Ax (rx xss k).length cx] 22)
          have o8 := ownsRow_below o7 b8
          have hown8 := ownsRow_below hown7 b8
          have hb8 := hb7.trans (b8.mono z7)
          have hc8 := new_cell w7 (.slice Ax (rx xss k).length cx) 22 rfl
          have HC8 : Hid (∀ j, j < 1 → ∃ b o, (some ⟨w7.heap.size, 0, none⟩ : Option Addr) = some ⟨b, o, none⟩ ∧ (w7.alloc (.cells #[.slice Ax (rx xss k).length cx] 22)).cell? ⟨b, o + j, none⟩ = [Value.slice Ax (rx xss k).length cx][j]?) := by
            intro j hj
            obtain rfl : j = 0 := by omega
            exact ⟨w7.heap.size, 0, rfl, hc8⟩
          have HV8 : Hid (RowsV (w7.alloc (.cells #[.slice Ax (rx xss k).length cx] 22)) lo hi ([] ++ vs.take k ++ [Value.slice Ax (rx xss k).length cx]) (ys.take k ++ [rx xss k])) := by
            have h1 := (HS.out (k + 1)).lt hb8 hhi
            rw [HF.out, HSN.out, HPOS.out] at h1
            exact h1.left (by simp; omega)
          clear hc8 b8 o7 hown7 hb7
          go_wp2_with (at_builtin; refine wpList_append_rowsV _ rfl _ _ rfl w.heap.size k c7 A7 ([] ++ vs.take k) rfl o8 (some ⟨w7.heap.size, 0, none⟩) 1 1 [Value.slice Ax (rx xss k).length cx] _ lo hi rfl HC8.out HV8.out rfl (by omega) (by omega) ?_)
          intro A9 c9 w9 o9 v9 g9 hat9
          have hb9 := below_of_below hb8 g9 (fun j e => (World.ownsRow.lt o8 j e).1)
          have hown9 : w9.ownsRow w.heap.size 22 1 (.slice (some ⟨gg, 0, none⟩) k cc) k vs := ownsRow_grown hown8 g9 (fun j e => by have := HNE.out j e; simp [Value.ownBlock]; omega)
          have hcells9 : ∀ j, j < k → w9.cell? ⟨gg, j, none⟩ = vs[j]? := fun j hj => World.ownsRow.cellAt hown9 j (by omega)
          have z9 := hb9.size
          have HV9 : Hid (RowsV w9 lo hi ([] ++ vs.take k ++ [Value.slice Ax (rx xss k).length cx] ++ vs.drop k) (ys.take k ++ [rx xss k] ++ ys.drop k)) := by
            have h1 := (HS.out (k + 1)).lt hb9 hhi
            rw [HF.out, HSN.out, HPOS.out] at h1
            exact h1
          have HDL : Hid ((vs.drop k).length = k - k) := by show _ = _; rw [List.length_drop]; omega
          have HKI : Hid (k + 1 + (k - k) = k + 1) := by show _ = _; omega
          clear hat9 g9 v9 o8 hown8 hb8 HC8 HV8 HNE
          by_cases hcap : cc = k
          · have HCV : Hid (∀ j, j < k - k → ∃ b o, (some ⟨gg, 0, none⟩ : Option Addr) = some ⟨b, o, none⟩ ∧ w9.cell? ⟨b, o + j, none⟩ = (vs.drop k)[j]?) := fun j hj => by omega
            clear hcells9
            go_wp2_with (at_builtin; refine wpList_append_rowsV _ rfl _ _ rfl w.heap.size (k + 1) c9 A9 ([] ++ vs.take k ++ [Value.slice Ax (rx xss k).length cx]) rfl o9 (some ⟨gg, 0, none⟩) (k - k) (cc - k) (vs.drop k) _ lo hi (by simp [Act.eval, Act.put, hcap]) HCV.out HV9.out HDL.out (by omega) (by omega) ?_)
            intro A11 c11 w11 o11 v11 g11 hat11
            have hb11 := below_of_below hb9 g11 (fun j e => (World.ownsRow.lt o9 j e).1)
            (try rw [HKI.out] at o11)
            have e11 : w11.ownsRow w.heap.size 22 1 (.slice A11 (k + 1) c11) (k + 1) ((sortTo Z (k + 1)).map Prod.fst) := by rw [HF.out, HPOS.out]; simpa using o11
            clear o11
            have o11 := e11
            obtain ⟨gn, hgn⟩ := ownsRow_some o11 (by omega)
            have HGN := Lib.hid hgn
            clear hat11 g11 v11 o9 hown9 hb9 HV9 HCV e11 hgn
            go_wp2
            go_roundw
            case rel => first | exact ⟨k + 1, _, _, by omega, by go_num, by rw [← HKI.out], ⟨gn, HGN.out⟩, o11, hb11⟩ | ((repeat apply Exists.intro); exact ⟨⟨k + 1, _, _, by omega, by go_num, by rw [← HKI.out], ⟨gn, HGN.out⟩, o11, hb11⟩, rfl⟩)
            case measure => simp [intOf]; omega
          · have HCV : Hid (∀ j, j < k - k → ∃ b o, (some ⟨gg, k, none⟩ : Option Addr) = some ⟨b, o, none⟩ ∧ w9.cell? ⟨b, o + j, none⟩ = (vs.drop k)[j]?) := fun j hj => ⟨gg, k, rfl, by rw [List.getElem?_drop]; exact hcells9 (k + j) (by omega)⟩
            have hcap2 : ¬ (k = cc) := fun e => hcap e.symm
            clear hcells9
            go_wp2_with (at_builtin; refine wpList_append_rowsV _ rfl _ _ rfl w.heap.size (k + 1) c9 A9 ([] ++ vs.take k ++ [Value.slice Ax (rx xss k).length cx]) rfl o9 (some ⟨gg, k, none⟩) (k - k) (cc - k) (vs.drop k) _ lo hi (by simp [Act.eval, Act.put, hcap]) HCV.out HV9.out HDL.out (by omega) (by omega) ?_)
            intro A11 c11 w11 o11 v11 g11 hat11
            have hb11 := below_of_below hb9 g11 (fun j e => (World.ownsRow.lt o9 j e).1)
            (try rw [HKI.out] at o11)
            have e11 : w11.ownsRow w.heap.size 22 1 (.slice A11 (k + 1) c11) (k + 1) ((sortTo Z (k + 1)).map Prod.fst) := by rw [HF.out, HPOS.out]; simpa using o11
            clear o11
            have o11 := e11
            obtain ⟨gn, hgn⟩ := ownsRow_some o11 (by omega)
            have HGN := Lib.hid hgn
            clear hat11 g11 v11 o9 hown9 hb9 HV9 HCV e11 hgn
            go_wp2
            go_roundw
            case rel => first | exact ⟨k + 1, _, _, by omega, by go_num, by rw [← HKI.out], ⟨gn, HGN.out⟩, o11, hb11⟩ | ((repeat apply Exists.intro); exact ⟨⟨k + 1, _, _, by omega, by go_num, by rw [← HKI.out], ⟨gn, HGN.out⟩, o11, hb11⟩, rfl⟩)
            case measure => simp [intOf]; omega
    · obtain rfl : i = xss.length := by omega
      have e1 := HD.out
      have hV2 := (HS.out xss.length).lt hb hhi
      rw [e1] at hV2
      have hTl : T.length = xss.length := by rw [← e1, List.length_map]; exact HSL.out _ (by rw [HZL.out]; exact Nat.le_refl _)
      have HTL := Lib.hid hTl
      clear hTl e1
      go_wp2
      go_ret
      rw [HTL.out]
      refine ⟨_, _, rfl, ownR_iff.2 ⟨_, ?_, fun j e => (World.ownsRow.lt hown j e).2, hV2.mono (Nat.le_refl _) (by omega)⟩, hb⟩
      rw [HTL.out]
      exact ownsRow_base hown hlo
end Go.Proofs.Ytgehbpeeljifnaa
