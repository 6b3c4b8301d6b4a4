/- A market turned round: women propose. -/
import Derived.Test.YtbhkpingpipdpaaCopy
import Derived.Test.YtbhkpingpipdpaaMkt
import Derived.Test.YtbhkpingpipdpaaLawMarket0
namespace Go.Proofs.Ytbhkpingpipdpaa
set_option linter.unusedVariables false
open Go.RowKit

/-- a market of the call's own: both lists of rows lie from lo on, below hi, and share no block -/
def OwnM (w : World) (lo hi : Nat) (A : Option Addr) (n c : Nat) (xss : List (List Int)) (B : Option Addr) (m d : Nat) (yss : List (List Int)) : Prop :=
  ∃ l1 h1 l2 h2, OwnR w l1 h1 (.slice A n c) xss ∧ OwnR w l2 h2 (.slice B m d) yss ∧ lo ≤ l1 ∧ l1 ≤ h1 ∧ h1 ≤ hi ∧ lo ≤ l2 ∧ l2 ≤ h2 ∧ h2 ≤ hi ∧ (h1 ≤ l2 ∨ h2 ≤ l1)
section
variable {w w' : World} {lo hi : Nat} {A B : Option Addr} {n c m d : Nat} {xss yss : List (List Int)}
theorem OwnM.belowW (h : OwnM w lo hi A n c xss B m d yss) (hb : Below w.heap.size w w') : OwnM w' lo hi A n c xss B m d yss := by
  obtain ⟨l1, h1, l2, h2, a, b, r⟩ := h
  exact ⟨l1, h1, l2, h2, a.belowW hb, b.belowW hb, r⟩
theorem OwnM.only {l h : Nat} (g : OwnM w lo hi A n c xss B m d yss) (ho : Only l h w w') (hd : hi ≤ l ∨ h ≤ lo) : OwnM w' lo hi A n c xss B m d yss := by
  obtain ⟨l1, h1, l2, h2, a, b, r⟩ := g
  exact ⟨l1, h1, l2, h2, a.only ho (by omega), b.only ho (by omega), r⟩
theorem OwnM.mono {lo' hi' : Nat} (h : OwnM w lo hi A n c xss B m d yss) (hl : lo' ≤ lo) (hh : hi ≤ hi') : OwnM w lo' hi' A n c xss B m d yss := by
  obtain ⟨l1, h1, l2, h2, a, b, r⟩ := h
  exact ⟨l1, h1, l2, h2, a, b, by omega⟩
theorem OwnM.men (h : OwnM w lo hi A n c xss B m d yss) : RowsAt w A n xss := by obtain ⟨l1, h1, l2, h2, a, b, r⟩ := h; exact a.at_
theorem OwnM.women (h : OwnM w lo hi A n c xss B m d yss) : RowsAt w B m yss := by obtain ⟨l1, h1, l2, h2, a, b, r⟩ := h; exact b.at_
theorem OwnM.nil (w : World) {lo hi : Nat} (h : lo ≤ hi) : OwnM w lo hi none 0 0 [] none 0 0 [] := ⟨lo, lo, lo, lo, OwnR.nil _ _ _, OwnR.nil _ _ _, by omega⟩
end

def turnMen (xss yss : List (List Int)) : List (List Int) := if marketOk xss yss then yss else []
def turnWom (xss yss : List (List Int)) : List (List Int) := if marketOk xss yss then xss else []
theorem turn_no {xss yss : List (List Int)} (h : marketOk xss yss = false) : turnMen xss yss = [] ∧ turnWom xss yss = [] := by unfold turnMen turnWom; rw [h]; exact ⟨rfl, rfl⟩
theorem turn_yes {xss yss : List (List Int)} (h : marketOk xss yss = true) : turnMen xss yss = yss ∧ turnWom xss yss = xss := by unfold turnMen turnWom; rw [h]; exact ⟨rfl, rfl⟩
theorem turn_bd {xss yss : List (List Int)} (h1 : ∀ xs ∈ xss, xs.length ≤ 1048576) (h2 : ∀ xs ∈ yss, xs.length ≤ 1048576) (h3 : xss.length ≤ 1048576) (h4 : yss.length ≤ 1048576) :
    (turnMen xss yss).length ≤ 1048576 ∧ (∀ xs ∈ turnMen xss yss, xs.length ≤ 1048576) ∧ (turnWom xss yss).length ≤ 1048576 ∧ (∀ xs ∈ turnWom xss yss, xs.length ≤ 1048576) := by
  cases h : marketOk xss yss
  · rw [(turn_no h).1, (turn_no h).2]; simp
  · rw [(turn_yes h).1, (turn_yes h).2]; exact ⟨h4, h2, h3, h1⟩
/-- while the market that was turned is built -/
structure TurnW (w0 : World) (A : Option Addr) (c : Nat) (xss : List (List Int)) (B : Option Addr) (d : Nat) (yss : List (List Int)) (W : World) : Prop where
  x0 : W.cell? ⟨w0.heap.size, 0, none⟩ = some (.slice A xss.length c)
  x1 : W.cell? ⟨w0.heap.size, 1, none⟩ = some (.slice B yss.length d)
  y0 : W.cell? ⟨w0.heap.size + 1, 0, none⟩ = some (.slice none 0 0)
  y1 : W.cell? ⟨w0.heap.size + 1, 1, none⟩ = some (.slice none 0 0)
  f0 : W.frozen? ⟨w0.heap.size + 1, 0, none⟩ = false
  f1 : W.frozen? ⟨w0.heap.size + 1, 1, none⟩ = false
  men : RowsAt W A xss.length xss
  women : RowsAt W B yss.length yss
  bel : Below w0.heap.size w0 W
  sz : w0.heap.size + 2 ≤ W.heap.size
theorem TurnW.later {w0 W W' : World} {A : Option Addr} {c : Nat} {xss : List (List Int)} {B : Option Addr} {d : Nat} {yss : List (List Int)} (h : TurnW w0 A c xss B d yss W) (hb : Below W.heap.size W W') : TurnW w0 A c xss B d yss W' :=
  ⟨cell_carry hb h.x0, cell_carry hb h.x1, cell_carry hb h.y0, cell_carry hb h.y1, (hb.frozen (p := ⟨w0.heap.size + 1, 0, none⟩) (by have := h.sz; simp; omega)).trans h.f0, (hb.frozen (p := ⟨w0.heap.size + 1, 1, none⟩) (by have := h.sz; simp; omega)).trans h.f1,
    h.men.below hb, h.women.below hb, h.bel.trans (hb.mono h.bel.size), Nat.le_trans h.sz hb.size⟩
theorem TurnW.start {w : World} {A : Option Addr} {c : Nat} {xss : List (List Int)} {B : Option Addr} {d : Nat} {yss : List (List Int)} (h : RowsAt w A xss.length xss) (g : RowsAt w B yss.length yss) (T : TypeId) :
    TurnW w A c xss B d yss ((w.alloc (.cells #[.slice A xss.length c, .slice B yss.length d] T)).alloc (.cells #[.slice none 0 0, .slice none 0 0] T)) := by
  have a1 := pair_below w (.slice A xss.length c) (.slice B yss.length d) T
  have a2 := a1.trans ((pair_below (w.alloc (.cells #[.slice A xss.length c, .slice B yss.length d] T)) (.slice none 0 0) (.slice none 0 0) T).mono (by simp))
  have p1 := new_pair w (.slice A xss.length c) (.slice B yss.length d) T rfl
  have p2 := new_pair (w.alloc (.cells #[.slice A xss.length c, .slice B yss.length d] T)) (.slice none 0 0) (.slice none 0 0) T (g := w.heap.size + 1) (by simp)
  exact ⟨old_cell p1.1 _, old_cell p1.2 _, p2.1, p2.2, new_free _ _ _ (by simp) 0, new_free _ _ _ (by simp) 1, h.below a2, g.below a2, a2, by simp⟩
theorem TurnW.fin {w0 W W' : World} {A : Option Addr} {c : Nat} {xss : List (List Int)} {B : Option Addr} {d : Nat} {yss : List (List Int)} (h : TurnW w0 A c xss B d yss W) {u v : Value} (e : (W.setCell ⟨w0.heap.size + 1, 0, none⟩ u).setCell ⟨w0.heap.size + 1, 1, none⟩ v = W') :
    W'.cell? ⟨w0.heap.size + 1, 0, none⟩ = some u ∧ W'.cell? ⟨w0.heap.size + 1, 1, none⟩ = some v ∧ Below w0.heap.size w0 W' ∧ Only (w0.heap.size + 1) (w0.heap.size + 2) W W' := by
  subst e
  have p := pair_set h.y0 h.y1 u v
  exact ⟨p.1, p.2, (h.bel.setCell (p := ⟨w0.heap.size + 1, 0, none⟩) (by simp) u).setCell (p := ⟨w0.heap.size + 1, 1, none⟩) (by simp) v, (Only.setCell W (w0.heap.size + 1) 0 none u).trans (Only.setCell _ (w0.heap.size + 1) 1 none v)⟩
set_option maxHeartbeats 1000000 in
theorem implTurnMarket (A : Option Addr) (n c : Nat) (xss : List (List Int)) (B : Option Addr) (m d : Nat) (yss : List (List Int)) (w : World) (h : RowsAt w A n xss) (hn : n ≤ 1048576) (hx : ∀ xs ∈ xss, xs.length ≤ 1048576)
    (g : RowsAt w B m yss) (hm : m ≤ 1048576) (hy : ∀ xs ∈ yss, xs.length ≤ 1048576) :
    Calls Try.prog 11 #[.agg #[.slice A n c, .slice B m d]] w fun e w' => ∃ A1 c1 B1 d1, e = .returned (.tuple #[.agg #[.slice A1 (turnMen xss yss).length c1, .slice B1 (turnWom xss yss).length d1], .bool (marketOk xss yss)]) ∧
      OwnM w' w.heap.size w'.heap.size A1 (turnMen xss yss).length c1 (turnMen xss yss) B1 (turnWom xss yss).length d1 (turnWom xss yss) ∧ Below w.heap.size w w' := by
  obtain rfl := h.len
  obtain rfl := g.len
  have HX := Lib.hid hx
  have HY := Lib.hid hy
  clear hx hy
  have K := TurnW.start (c := c) (d := d) h g 26
  cases h1 : marketOk xss yss
  · have E := Lib.hid (turn_no h1)
    rw [E.out.1, E.out.2]
    go_enter Try.func11, Try.ntmps11
    go_wp2_with fail
    generalize (w.alloc (.cells #[.slice A xss.length c, .slice B yss.length d] 26)).alloc (.cells #[.slice none 0 0, .slice none 0 0] 26) = V at *
    (with_reducible refine (implMarketOk _ _ _ _ _ _ _ _ _ K.men hn HX.out K.women hm HY.out).mono ?_)
    rintro e w1 ⟨rfl, hb⟩
    rw [h1]
    have K := K.later hb
    have q0 := K.y0
    have q1 := K.y1
    have f0 := K.f0
    have f1 := K.f1
    clear hb h1
    go_wp2
    obtain ⟨e0, e1, b1, n1⟩ := K.fin (u := .slice none 0 0) (v := .slice none 0 0) rfl
    exact bodyPost_ret (v := .tuple #[.agg #[.slice none 0 0, .slice none 0 0], .bool false]) (by simp [results, Try.results11, go_sem, e0, e1]) rfl ⟨none, 0, none, 0, rfl, OwnM.nil _ b1.size, b1⟩
  · have E := Lib.hid (turn_yes h1)
    rw [E.out.1, E.out.2]
    go_enter Try.func11, Try.ntmps11
    go_wp2_with fail
    generalize (w.alloc (.cells #[.slice A xss.length c, .slice B yss.length d] 26)).alloc (.cells #[.slice none 0 0, .slice none 0 0] 26) = V at *
    (with_reducible refine (implMarketOk _ _ _ _ _ _ _ _ _ K.men hn HX.out K.women hm HY.out).mono ?_)
    rintro e w1 ⟨rfl, hb⟩
    rw [h1]
    have K := K.later hb
    have x0 := K.x0
    have x1 := K.x1
    have q0 := K.y0
    have q1 := K.y1
    have f0 := K.f0
    have f1 := K.f1
    have s1 := K.sz
    clear hb h1
    go_wp2_with fail
    have K := K.later (W' := w1.drew) ((Below.refl _ _).drew)
    go_region_held3 (fun w' => w'.cell? ⟨w.heap.size, 0, none⟩ = some (Value.slice A xss.length c) ∧ w'.cell? ⟨w.heap.size, 1, none⟩ = some (Value.slice B yss.length d))
      (first | exact ⟨by assumption, by assumption⟩ | (refine ⟨?_, ?_⟩ <;> go_keep))
      (first
        | (go_at_call 32; (with_reducible refine (copyRows_any B yss.length d yss _ K.women hm HY.out).mono ?_); rintro e w2 ⟨B1, d1, rfl, o1, b1⟩; have K := K.later b1; have x0 := K.x0; have x1 := K.x1; have q0 := K.y0; have q1 := K.y1; have f0 := K.f0; have f1 := K.f1)
        | (go_at_call 32; (with_reducible refine (copyRows_any A xss.length c xss _ K.men hn HX.out).mono ?_); rintro e w3 ⟨A1, c1, rfl, o2, b2⟩; have K := K.later b2; have x0 := K.x0; have x1 := K.x1; have q0 := K.y0; have q1 := K.y1; have f0 := K.f0; have f1 := K.f1))
    all_goals
      have hd : w1.drew.heap.size = w1.heap.size := rfl
      have z1 := b1.size
      have z2 := b2.size
      first | replace o1 := o1.belowW b2 | replace o2 := o2.belowW b1
      clear b1 b2
      go_wp2
      obtain ⟨e0, e1, bb, nn⟩ := K.fin (u := .slice B1 yss.length d1) (v := .slice A1 xss.length c1) rfl
      have z3 := nn.size
      have s3 := K.sz
      exact bodyPost_ret (v := .tuple #[.agg #[.slice B1 yss.length d1, .slice A1 xss.length c1], .bool true]) (by simp [results, Try.results11, go_sem, e0, e1]) rfl ⟨B1, d1, A1, c1, rfl, ⟨_, _, _, _, o1.only nn (by omega), o2.only nn (by omega), by omega, by omega, by omega, by omega, by omega, by omega, by omega⟩, bb⟩
set_option maxHeartbeats 1000000 in
theorem specTurnMarket (A : Option Addr) (n c : Nat) (xss : List (List Int)) (B : Option Addr) (m d : Nat) (yss : List (List Int)) (w : World) (h : RowsAt w A n xss) (hn : n ≤ 1048576) (hx : ∀ xs ∈ xss, xs.length ≤ 1048576)
    (g : RowsAt w B m yss) (hm : m ≤ 1048576) (hy : ∀ xs ∈ yss, xs.length ≤ 1048576) :
    Calls Try.prog 9 #[.agg #[.slice A n c, .slice B m d]] w fun e w' => ∃ A1 c1 B1 d1, e = .returned (.tuple #[.agg #[.slice A1 (turnMen xss yss).length c1, .slice B1 (turnWom xss yss).length d1], .bool (marketOk xss yss)]) ∧
      OwnM w' w.heap.size w'.heap.size A1 (turnMen xss yss).length c1 (turnMen xss yss) B1 (turnWom xss yss).length d1 (turnWom xss yss) ∧ Below w.heap.size w w' := by
  obtain rfl := h.len
  obtain rfl := g.len
  have HX := Lib.hid hx
  have HY := Lib.hid hy
  clear hx hy
  have K := TurnW.start (c := c) (d := d) h g 26
  cases h1 : marketOk xss yss
  · have E := Lib.hid (turn_no h1)
    rw [E.out.1, E.out.2]
    go_enter Try.func9, Try.ntmps9
    go_wp2_with fail
    generalize (w.alloc (.cells #[.slice A xss.length c, .slice B yss.length d] 26)).alloc (.cells #[.slice none 0 0, .slice none 0 0] 26) = V at *
    (with_reducible refine (specMarketOk _ _ _ _ _ _ _ _ _ K.men hn HX.out K.women hm HY.out).mono ?_)
    rintro e w1 ⟨rfl, hb⟩
    rw [h1]
    have K := K.later hb
    have q0 := K.y0
    have q1 := K.y1
    have f0 := K.f0
    have f1 := K.f1
    clear hb h1
    go_wp2
    obtain ⟨e0, e1, b1, n1⟩ := K.fin (u := .slice none 0 0) (v := .slice none 0 0) rfl
    exact bodyPost_ret (v := .tuple #[.agg #[.slice none 0 0, .slice none 0 0], .bool false]) (by simp [results, Try.results9, go_sem, e0, e1]) rfl ⟨none, 0, none, 0, rfl, OwnM.nil _ b1.size, b1⟩
  · have E := Lib.hid (turn_yes h1)
    rw [E.out.1, E.out.2]
    go_enter Try.func9, Try.ntmps9
    go_wp2_with fail
    generalize (w.alloc (.cells #[.slice A xss.length c, .slice B yss.length d] 26)).alloc (.cells #[.slice none 0 0, .slice none 0 0] 26) = V at *
    (with_reducible refine (specMarketOk _ _ _ _ _ _ _ _ _ K.men hn HX.out K.women hm HY.out).mono ?_)
    rintro e w1 ⟨rfl, hb⟩
    rw [h1]
    have K := K.later hb
    have x0 := K.x0
    have x1 := K.x1
    have q0 := K.y0
    have q1 := K.y1
    have f0 := K.f0
    have f1 := K.f1
    have s1 := K.sz
    clear hb h1
    go_wp2_with fail
    have K := K.later (W' := w1.drew) ((Below.refl _ _).drew)
    go_region_held3 (fun w' => w'.cell? ⟨w.heap.size, 0, none⟩ = some (Value.slice A xss.length c) ∧ w'.cell? ⟨w.heap.size, 1, none⟩ = some (Value.slice B yss.length d))
      (first | exact ⟨by assumption, by assumption⟩ | (refine ⟨?_, ?_⟩ <;> go_keep))
      (first
        | (go_at_call 29; (with_reducible refine (l17Copy_any B yss.length d yss _ K.women hm HY.out).mono ?_); rintro e w2 ⟨B1, d1, rfl, o1, b1⟩; have K := K.later b1; have x0 := K.x0; have x1 := K.x1; have q0 := K.y0; have q1 := K.y1; have f0 := K.f0; have f1 := K.f1)
        | (go_at_call 29; (with_reducible refine (l17Copy_any A xss.length c xss _ K.men hn HX.out).mono ?_); rintro e w3 ⟨A1, c1, rfl, o2, b2⟩; have K := K.later b2; have x0 := K.x0; have x1 := K.x1; have q0 := K.y0; have q1 := K.y1; have f0 := K.f0; have f1 := K.f1))
    all_goals
      have hd : w1.drew.heap.size = w1.heap.size := rfl
      have z1 := b1.size
      have z2 := b2.size
      first | replace o1 := o1.belowW b2 | replace o2 := o2.belowW b1
      clear b1 b2
      go_wp2
      obtain ⟨e0, e1, bb, nn⟩ := K.fin (u := .slice B1 yss.length d1) (v := .slice A1 xss.length c1) rfl
      have z3 := nn.size
      have s3 := K.sz
      exact bodyPost_ret (v := .tuple #[.agg #[.slice B1 yss.length d1, .slice A1 xss.length c1], .bool true]) (by simp [results, Try.results9, go_sem, e0, e1]) rfl ⟨B1, d1, A1, c1, rfl, ⟨_, _, _, _, o1.only nn (by omega), o2.only nn (by omega), by omega, by omega, by omega, by omega, by omega, by omega, by omega⟩, bb⟩
end Go.Proofs.Ytbhkpingpipdpaa
