/- A market under way, in pieces; the program's Split. -/
import Derived.Test.YtnoanomihifobaaDoorParseA
import Derived.Test.YtnoanomihifobaaDoorFmtM
import Derived.Test.YtnoanomihifobaaDoorPieces2
namespace Go.Proofs.YtnoanomihifobaaDoor
set_option linter.unusedVariables false
open Go.RowKit

theorem pS_newM (w : World) (T : TypeId) (vals : List Value) (h1 : 1 ≤ vals.length) : OwnL (w.alloc (.cells vals.toArray T)) w.heap.size (w.alloc (.cells vals.toArray T)).heap.size [pS T w.heap.size vals] := by
  have h := World.ownsRow_lit (e := T) (size := vals.length) (base := 0) w vals.toArray 1 (Nat.zero_le _) (by unfold maxLen; omega) (by simp)
  refine ⟨fun p hp => ?_, by simp⟩
  rw [List.mem_singleton] at hp
  subst hp
  exact ⟨h, fun k e => by cases (show some w.heap.size = some k from e); simp⟩
theorem permA {p a b c : Pc} {X Y : List Pc} : (a :: b :: c :: ((X ++ [p]) ++ Y)).Perm (p :: a :: b :: c :: (X ++ Y)) := by
  have h : a :: b :: c :: ((X ++ [p]) ++ Y) = (a :: b :: c :: X) ++ p :: Y := by simp
  rw [h]
  exact List.perm_middle
theorem permB {p a b c : Pc} {X Y : List Pc} : (a :: b :: c :: (X ++ (Y ++ [p]))).Perm (p :: a :: b :: c :: (X ++ Y)) := by
  have h : a :: b :: c :: (X ++ (Y ++ [p])) = (a :: b :: c :: (X ++ Y)) ++ p :: [] := by simp
  rw [h]
  have := List.perm_middle (a := p) (l₁ := a :: b :: c :: (X ++ Y)) (l₂ := [])
  simpa using this
/-- the pieces while the words are read -/
def PhP (lo g : Nat) (M W : List (List Int)) (wr : World) : Prop :=
  ∃ A1 c1 A2 c2 us vs, us.length = M.length ∧ vs.length = W.length ∧
    OwnL wr lo wr.heap.size (pS 24 g [.slice A1 M.length c1, .slice A2 W.length c2] :: pR (.slice A1 M.length c1) us :: pR (.slice A2 W.length c2) vs :: (rowsL us M ++ rowsL vs W))
/-- what comes back: two slices of rows of the call's own -/
def OwnMk (w : World) (lo hi : Nat) (A : Option Addr) (n c : Nat) (M : List (List Int)) (B : Option Addr) (m d : Nat) (W : List (List Int)) : Prop :=
  M.length = n ∧ W.length = m ∧ ∃ us vs, us.length = M.length ∧ vs.length = W.length ∧ OwnL w lo hi (pR (.slice A n c) us :: pR (.slice B m d) vs :: (rowsL us M ++ rowsL vs W))
theorem OwnMk.nil (w : World) (lo hi : Nat) : OwnMk w lo hi none 0 0 [] none 0 0 [] := by
  refine ⟨rfl, rfl, [], [], rfl, rfl, fun p hp => ?_, ?_⟩
  · simp [rowsL] at hp
    subst hp
    exact ⟨World.ownsRow_nil _ _ _ _, fun k e => by cases (show (none : Option Nat) = some k from e)⟩
  · simp [rowsL, pR, Apart, Value.ownBlock]
section
variable {w w' : World} {lo hi : Nat} {A : Option Addr} {n c : Nat} {M : List (List Int)} {B : Option Addr} {m d : Nat} {W : List (List Int)}
theorem OwnMk.belowW (h : OwnMk w lo hi A n c M B m d W) (hb : Below w.heap.size w w') : OwnMk w' lo hi A n c M B m d W := by
  obtain ⟨h1, h2, us, vs, h4, h5, h6⟩ := h
  exact ⟨h1, h2, us, vs, h4, h5, h6.belowW hb⟩
theorem OwnMk.only {l2 h2 : Nat} (h : OwnMk w lo hi A n c M B m d W) (ho : Only l2 h2 w w') (hd : hi ≤ l2 ∨ h2 ≤ lo) : OwnMk w' lo hi A n c M B m d W := by
  obtain ⟨h1, h2', us, vs, h4, h5, h6⟩ := h
  exact ⟨h1, h2', us, vs, h4, h5, h6.only ho hd⟩
theorem OwnMk.men (h : OwnMk w lo hi A n c M B m d W) : RowsAt w A n M := by
  obtain ⟨rfl, h2, us, vs, h4, h5, h6⟩ := h
  have h7 : OwnL w lo hi (pR (.slice A M.length c) us :: rowsL us M) := h6.sub (List.Sublist.cons_cons _ (List.Sublist.cons _ (List.sublist_append_left _ _)))
  exact (ownR_of_pieces (A := A) (n := M.length) (c := c) h4 h7).at_
theorem OwnMk.women (h : OwnMk w lo hi A n c M B m d W) : RowsAt w B m W := by
  obtain ⟨h1, rfl, us, vs, h4, h5, h6⟩ := h
  have h7 : OwnL w lo hi (pR (.slice B W.length d) vs :: rowsL vs W) := h6.sub (List.Sublist.cons _ (List.Sublist.cons_cons _ (List.sublist_append_right _ _)))
  exact (ownR_of_pieces (A := B) (n := W.length) (c := d) h5 h7).at_
end
theorem parR_len (w : List UInt8) : (parR w).length ≤ 5 := by
  cases h : okR w
  · rw [parR_no h]; simp
  · rw [parR_yes h]
    have := (rankOk_facts (show rankOk (w.length : Int) (lsR w) = true from h)).2.1
    rw [lsR_len]; omega
theorem rdF_rows : ∀ (ws : List (List UInt8)) (b : Bool) (M W : List (List Int)), (∀ xs ∈ M, xs.length ≤ 5) → (∀ xs ∈ W, xs.length ≤ 5) → (∀ xs ∈ (rdF ws b M W).1, xs.length ≤ 5) ∧ ∀ xs ∈ (rdF ws b M W).2, xs.length ≤ 5
  | [], _, M, W, h1, h2 => ⟨h1, h2⟩
  | w :: ws, b, M, W, h1, h2 => by
    have hw := parR_len w
    have h3 : ∀ (Z : List (List Int)), (∀ xs ∈ Z, xs.length ≤ 5) → ∀ xs ∈ Z ++ [parR w], xs.length ≤ 5 := fun Z hZ xs hxs => by
      rcases List.mem_append.1 hxs with h | h
      · exact hZ xs h
      · rw [List.mem_singleton.1 h]; exact hw
    unfold rdF
    split
    · exact rdF_rows ws true M W h1 h2
    · split
      · exact rdF_rows ws b M _ h1 (h3 W h2)
      · exact rdF_rows ws b _ W (h3 M h1) h2
/-- the result's cell -/
structure MkR (w0 W : World) (g : Nat) : Prop where
  y0 : W.cell? ⟨g, 0, none⟩ = some (.slice none 0 0)
  y1 : W.cell? ⟨g, 1, none⟩ = some (.slice none 0 0)
  f : ∀ j, W.frozen? ⟨g, j, none⟩ = false
  lt : g < W.heap.size
  bel : Below w0.heap.size w0 W
theorem MkR.later {w0 W W' : World} {g b : Nat} (h : MkR w0 W g) (hb : Below b W W') (hg : g < b) (hw : w0.heap.size ≤ g) : MkR w0 W' g :=
  ⟨(hb.cell (p := ⟨g, 0, none⟩) hg).trans h.y0, (hb.cell (p := ⟨g, 1, none⟩) hg).trans h.y1, fun j => (hb.frozen (p := ⟨g, j, none⟩) hg).trans (h.f j), Nat.lt_of_lt_of_le h.lt hb.size, h.bel.trans (hb.mono (by omega))⟩
theorem MkR.start (w : World) (T : TypeId) : MkR w (w.alloc (.cells #[.slice none 0 0, .slice none 0 0] T)) w.heap.size := by
  have p := new_pair w (.slice none 0 0) (.slice none 0 0) T rfl
  exact ⟨p.1, p.2, fun j => new_free _ _ _ rfl j, by simp, pair_below _ _ _ _⟩
theorem MkR.fin {w0 W W' : World} {g : Nat} (h : MkR w0 W g) (hw : w0.heap.size ≤ g) {u v : Value} (e : (W.setCell ⟨g, 0, none⟩ u).setCell ⟨g, 1, none⟩ v = W') :
    W'.cell? ⟨g, 0, none⟩ = some u ∧ W'.cell? ⟨g, 1, none⟩ = some v ∧ Below w0.heap.size w0 W' ∧ Only g (g + 1) W W' := by
  subst e
  have p := pair_set h.y0 h.y1 u v
  have hs : ∀ (V : World) (j : Nat) (x : Value), Only g (g + 1) V (V.setCell ⟨g, j, none⟩ x) := fun V j x => ⟨rfl, rfl, rfl, by simp [World.setCell], fun k _ hk => Below.heap_setCell _ _ _ _ (by simp; omega)⟩
  exact ⟨p.1, p.2, (h.bel.setCell (p := ⟨g, 0, none⟩) hw u).setCell (p := ⟨g, 1, none⟩) hw v, (hs W 0 u).trans (hs _ 1 v)⟩
theorem wds_le {a : ByteArray} {x : List UInt8} (h : x ∈ wds a) : x.length ≤ a.size := by
  have h3 := spA_sum a.data.toList []
  have h4 : ∀ (l : List (List UInt8)), x ∈ l → x.length + 1 ≤ (l.map fun w => w.length + 1).sum := by
    intro l
    induction l with
    | nil => intro h; cases h
    | cons y l ih =>
      intro h
      simp only [List.map_cons, List.sum_cons]
      rcases List.mem_cons.1 h with rfl | h
      · omega
      · have := ih h; omega
  have h5 := h4 _ h
  unfold wds at h5
  rw [h3, ← size_list] at h5
  simp at h5
  omega
/-- word k, as a string -/
theorem word_at {a : ByteArray} {ts : List ByteArray} (h : ts.map (·.data.toList) = wds a) {k : Nat} (hk : k < ts.length) : (sx ts k).data.toList = (wds a)[k]'(by rw [← h, List.length_map]; exact hk) ∧ (sx ts k).size ≤ a.size := by
  have e : (sx ts k).data.toList = (wds a)[k]'(by rw [← h, List.length_map]; exact hk) := by
    rw [sx_lt hk]
    simp only [← h, List.getElem_map]
  exact ⟨e, by rw [size_list, e]; exact wds_le (List.getElem_mem _)⟩
theorem word_bar {x : ByteArray} : x = ⟨#[124]⟩ ↔ x.data.toList = [124] :=
  ⟨fun e => by rw [e], fun e => ByteArray.ext (Array.ext' e)⟩
theorem implSplit (a : ByteArray) (m : Int) (w : World) (ha : a.size ≤ 1048576) (hm : w.cell? ⟨0, 0, none⟩ = some (.int .i64 m)) :
    Calls Tryd.prog 13 #[.string a, .string ⟨#[32]⟩] w fun e w' => ∃ A c ts, e = .returned (.slice A ts.length c) ∧ ts.map (·.data.toList) = wds a ∧ OwnS w' w.heap.size (.slice A ts.length c) ts ∧ ts.length ≤ 1048577 ∧ Below w.heap.size w w' := by
  have h1 : 1 ≤ (⟨#[32]⟩ : ByteArray).size := Nat.le_refl _
  have hlen := Lib.splitB_all ⟨#[32]⟩ h1 0 _ a rfl
  refine (sh_Split a ⟨#[32]⟩ m w (by omega) hm h1).mono ?_
  rintro e w' ⟨rfl, rfl⟩
  have hmap : (Lib.splitB ⟨#[32]⟩ 0 (Lib.countB a ⟨#[32]⟩) a).map (·.data.toList) = wds a := by
    rw [Lib.splitB_data]
    exact split_sp _ _ (Nat.le_refl _)
  have hle : (Lib.splitB ⟨#[32]⟩ 0 (Lib.countB a ⟨#[32]⟩) a).length ≤ 1048577 := by
    have h2 := congrArg List.length hmap
    rw [List.length_map] at h2
    rw [h2]
    have h3 := spA_sum a.data.toList []
    have h4 : ∀ (l : List (List UInt8)), l.length ≤ (l.map fun w => w.length + 1).sum := by
      intro l
      induction l with
      | nil => simp
      | cons x l ih => simp only [List.length_cons, List.map_cons, List.sum_cons]; omega
    have h5 := h4 (wds a)
    unfold wds at h5 ⊢
    rw [h3, ← size_list] at h5
    simp at h5
    omega
  refine ⟨some ⟨w.heap.size, 0, none⟩, Lib.countB a ⟨#[32]⟩ + 1, _, by rw [hlen], hmap, ?_, hle, (Below.refl _ _).alloc (Nat.le_refl _) _⟩
  have h := World.ownsRow_lit (e := 9) (size := 1) (base := w.heap.size) w ((Lib.splitB ⟨#[32]⟩ 0 (Lib.countB a ⟨#[32]⟩) a).map Value.string).toArray (Lib.splitB ⟨#[32]⟩ 0 (Lib.countB a ⟨#[32]⟩) a).length (Nat.le_refl _) (by unfold maxLen; omega) (by simp)
  unfold OwnS
  rw [hlen] at h ⊢
  exact h
end Go.Proofs.YtnoanomihifobaaDoor
