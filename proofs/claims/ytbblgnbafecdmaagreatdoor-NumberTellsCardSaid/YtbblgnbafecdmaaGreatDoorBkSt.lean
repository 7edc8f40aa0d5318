/- A book: lists that were kept, and their copies. No walk in this text. -/
import Derived.Test.YtbblgnbafecdmaaGreatDoorBkMark
namespace Go.Proofs.YtbblgnbafecdmaaGreatDoor.bk
open Go.RowKit Go.Lib

abbrev nilS : Value := .slice none 0 0
abbrev TBook : TypeId := 36
def bookCells (vT vW vS vX : Value) : Array Value := #[vT, vW, nilS, nilS, nilS, nilS, nilS, nilS, nilS, nilS, nilS, nilS, vS, vX, nilS, nilS]
/-- a book's cells lie in block b -/
def BookAt (b : Nat) (vT vW vS vX : Value) (w : World) : Prop := w.heap[b]? = some (.cells (bookCells vT vW vS vX) TBook (0, 0))
theorem BookAt.lt {b : Nat} {vT vW vS vX : Value} {w : World} (h : BookAt b vT vW vS vX w) : b < w.heap.size := (Array.getElem?_eq_some_iff.1 h).1
theorem BookAt.kept {b : Nat} {vT vW vS vX : Value} {w w' : World} (h : BookAt b vT vW vS vX w) (hb : w'.heap[b]? = w.heap[b]?) : BookAt b vT vW vS vX w' := hb.trans h
theorem BookAt.below {b : Nat} {vT vW vS vX : Value} {w w' : World} (h : BookAt b vT vW vS vX w) (hb : Below w.heap.size w w') : BookAt b vT vW vS vX w' := h.kept (hb.block b h.lt)
theorem BookAt.cell {b : Nat} {vT vW vS vX : Value} {w : World} (h : BookAt b vT vW vS vX w) (i : Nat) : w.cell? ⟨b, i, none⟩ = (bookCells vT vW vS vX)[i]? := cell_of_row w b i _ _ _ h
theorem BookAt.frozen {b : Nat} {vT vW vS vX : Value} {w : World} (h : BookAt b vT vW vS vX w) (i : Nat) : w.frozen? ⟨b, i, none⟩ = false := frozen_of_row w b i _ _ h
theorem BookAt.set0 {b : Nat} {vT vW vS vX x : Value} {w : World} (h : BookAt b vT vW vS vX w) : BookAt b x vW vS vX (w.setCell ⟨b, 0, none⟩ x) := by
  unfold BookAt; rw [heap_setCell_same w b 0 _ _ _ h]; rfl
theorem BookAt.set1 {b : Nat} {vT vW vS vX x : Value} {w : World} (h : BookAt b vT vW vS vX w) : BookAt b vT x vS vX (w.setCell ⟨b, 1, none⟩ x) := by
  unfold BookAt; rw [heap_setCell_same w b 1 _ _ _ h]; rfl
theorem BookAt.set12 {b : Nat} {vT vW vS vX x : Value} {w : World} (h : BookAt b vT vW vS vX w) : BookAt b vT vW x vX (w.setCell ⟨b, 12, none⟩ x) := by
  unfold BookAt; rw [heap_setCell_same w b 12 _ _ _ h]; rfl
theorem BookAt.set13 {b : Nat} {vT vW vS vX x : Value} {w : World} (h : BookAt b vT vW vS vX w) : BookAt b vT vW vS x (w.setCell ⟨b, 13, none⟩ x) := by
  unfold BookAt; rw [heap_setCell_same w b 13 _ _ _ h]; rfl
theorem BookAt.fresh (w : World) : BookAt w.heap.size nilS nilS nilS nilS (w.alloc (.cells (bookCells nilS nilS nilS nilS) TBook)) := heap_alloc_new w _

/-- two rows of different element types lie in different blocks -/
theorem rows_apart {w : World} {base base' : Nat} {e e' : TypeId} {sz sz' : Nat} {v v' : Value} {n n' : Nat} {xs xs' : List Value} (h : w.ownsRow base e sz v n xs) (h' : w.ownsRow base' e' sz' v' n' xs') (he : e ≠ e') : ∀ g, v.ownBlock = some g → v'.ownBlock ≠ some g := by
  intro g hg hg'
  obtain ⟨-, c1, h1⟩ := row_block h hg
  obtain ⟨-, c2, h2⟩ := row_block h' hg'
  rw [h1] at h2
  simp only [Option.some.injEq, Obj.cells.injEq] at h2
  exact he h2.2.1
theorem row_not_struct {w : World} {base : Nat} {e T : TypeId} {sz : Nat} {v : Value} {n : Nat} {xs : List Value} {b : Nat} {cs : Array Value} (h : w.ownsRow base e sz v n xs) (hb : w.heap[b]? = some (.cells cs T (0, 0))) (he : e ≠ T) : v.ownBlock ≠ some b := by
  intro hg
  obtain ⟨-, c1, h1⟩ := row_block h hg
  rw [hb] at h1
  simp only [Option.some.injEq, Obj.cells.injEq] at h1
  exact he h1.2.1.symm
theorem row_base {w : World} {b b' : Nat} {e : TypeId} {size : Nat} {v : Value} {n : Nat} {xs : List Value} (h : w.ownsRow b e size v n xs) (hb : b' ≤ b) : w.ownsRow b' e size v n xs := by
  refine ⟨h.1, ?_⟩
  rcases h.2 with hn | ⟨g, cap, cur, rfl, hbg, rest⟩
  · exact .inl hn
  · exact .inr ⟨g, cap, cur, rfl, Nat.le_trans hb hbg, rest⟩
theorem row_form {w : World} {b : Nat} {e : TypeId} {size : Nat} {v : Value} {n : Nat} {xs : List Value} (h : w.ownsRow b e size v n xs) : ∃ a cap, v = .slice a n cap ∧ n ≤ cap := by
  rcases h.2 with ⟨rfl, h0⟩ | ⟨g, c, cur, rfl, _, _, hc, _⟩
  · subst h0; exact ⟨_, _, rfl, Nat.le_refl _⟩
  · exact ⟨_, _, rfl, hc⟩
theorem grown_set {w : World} {b i : Nat} {x : Value} : w.grownBy (w.setCell ⟨b, i, none⟩ x) (some b) :=
  ⟨rfl, rfl, rfl, by simp [World.setCell], fun k _ hk => Below.heap_setCell w ⟨b, i, none⟩ x k (fun e => hk (by rw [e]))⟩
theorem set_size (w : World) (b i : Nat) (x : Value) : (w.setCell ⟨b, i, none⟩ x).heap.size = w.heap.size := by simp [World.setCell]
theorem row_set {w : World} {b i : Nat} {x : Value} {base : Nat} {e : TypeId} {sz : Nat} {v : Value} {n : Nat} {xs : List Value} (h : w.ownsRow base e sz v n xs) (hne : v.ownBlock ≠ some b) : (w.setCell ⟨b, i, none⟩ x).ownsRow base e sz v n xs :=
  row_kept h (fun g hg => Below.heap_setCell w ⟨b, i, none⟩ x g (fun e => hne (by rw [hg, e])))
theorem own_congr {w : World} {base : Nat} {e : TypeId} {size : Nat} {v : Value} {n m : Nat} {xs ys : List Value} (h : w.ownsRow base e size v n xs) (hy : xs = ys) (hn : n = m) : w.ownsRow base e size v m ys := hy ▸ hn ▸ h

/-- lists of a kind that are kept (vs, what they hold: their lengths and cells), and their copies; all blocks are of F -/
structure Kept (T E : TypeId) (sz base : Nat) (F : Nat → Prop) (vT vW : Value) (vs : List Value) (Xs : List (Nat × List Value)) (w : World) : Prop where
  len : vs.length = Xs.length
  rowT : w.ownsRow base T 1 vT vs.length vs
  copies : ∃ ws : List Value, ws.length = vs.length ∧ w.ownsRow base T 1 vW ws.length ws ∧ (∀ (i : Nat) (u : Value) (X : Nat × List Value), ws[i]? = some u → Xs[i]? = some X → w.ownsRow base E sz u X.1 X.2) ∧ (∀ u ∈ ws, ∀ g, u.ownBlock = some g → F g)
  rows : ∀ (i : Nat) (v : Value) (X : Nat × List Value), vs[i]? = some v → Xs[i]? = some X → w.ownsRow base E sz v X.1 X.2
  apartTW : ∀ g, vT.ownBlock = some g → vW.ownBlock ≠ some g
  apart : ∀ (i j : Nat) (v u : Value) (g : Nat), vs[i]? = some v → vs[j]? = some u → i ≠ j → v.ownBlock = some g → u.ownBlock ≠ some g
  inT : ∀ g, vT.ownBlock = some g → F g
  inW : ∀ g, vW.ownBlock = some g → F g
  inV : ∀ v ∈ vs, ∀ g, v.ownBlock = some g → F g
theorem Kept.nil (T E : TypeId) (sz base : Nat) (F : Nat → Prop) (w : World) : Kept T E sz base F nilS nilS [] [] w :=
  ⟨rfl, World.ownsRow_nil _ _ _ _, ⟨[], rfl, World.ownsRow_nil _ _ _ _, fun i u X h => by simp at h, fun u h => by simp at h⟩, fun i v X h => by simp at h, fun g h => by simp [Value.ownBlock] at h, fun i j v u g h => by simp at h, fun g h => by simp [Value.ownBlock] at h, fun g h => by simp [Value.ownBlock] at h, fun v h => by simp at h⟩
theorem Kept.frame {T E : TypeId} {sz base : Nat} {F G : Nat → Prop} {vT vW : Value} {vs : List Value} {Xs : List (Nat × List Value)} {w w' : World} (h : Kept T E sz base F vT vW vs Xs w) (hf : Frame G w w') (hd : ∀ g, F g → ¬ G g) : Kept T E sz base F vT vW vs Xs w' := by
  obtain ⟨ws, h1, h2, h3, h4⟩ := h.copies
  exact ⟨h.len, hf.row h.rowT (fun g hg => hd g (h.inT g hg)), ⟨ws, h1, hf.row h2 (fun g hg => hd g (h.inW g hg)), fun i u X hu hX => hf.row (h3 i u X hu hX) (fun g hg => hd g (h4 u (List.mem_of_getElem? hu) g hg)), h4⟩,
    fun i v X hv hX => hf.row (h.rows i v X hv hX) (fun g hg => hd g (h.inV v (List.mem_of_getElem? hv) g hg)), h.apartTW, h.apart, h.inT, h.inW, h.inV⟩
theorem Kept.weaken {T E : TypeId} {sz base : Nat} {F G : Nat → Prop} {vT vW : Value} {vs : List Value} {Xs : List (Nat × List Value)} {w : World} (h : Kept T E sz base F vT vW vs Xs w) (hFG : ∀ g, F g → G g) : Kept T E sz base G vT vW vs Xs w := by
  obtain ⟨ws, h1, h2, h3, h4⟩ := h.copies
  exact ⟨h.len, h.rowT, ⟨ws, h1, h2, h3, fun u hu g hg => hFG g (h4 u hu g hg)⟩, h.rows, h.apartTW, h.apart, fun g hg => hFG g (h.inT g hg), fun g hg => hFG g (h.inW g hg), fun v hv g hg => hFG g (h.inV v hv g hg)⟩

theorem get_snoc {α : Type} {l : List α} {x y : α} {i : Nat} (h : (l ++ [x])[i]? = some y) : (i < l.length ∧ l[i]? = some y) ∨ (i = l.length ∧ y = x) := by
  have hi := (List.getElem?_eq_some_iff.1 h).1
  rw [List.length_append, List.length_singleton] at hi
  rcases Nat.lt_or_ge i l.length with h1 | h1
  · left; rw [List.getElem?_append_left h1] at h; exact ⟨h1, h⟩
  · right
    have : i = l.length := by omega
    subst this
    rw [List.getElem?_append_right (Nat.le_refl _), Nat.sub_self] at h
    simp at h
    exact ⟨rfl, h.symm⟩

/-- one more list, and its copy: w3 behind the list's append and store, w4 behind the copy, w5 behind the copy's append; i0, i1: the fields' places -/
theorem Kept.add {T E : TypeId} {sz base b i0 i1 : Nat} {F : Nat → Prop} {vT vW v u vT' vW' : Value} {vs : List Value} {Xs : List (Nat × List Value)} {X : Nat × List Value} {w w2 w4 w5 : World} {o o' : Obj} {cs : Array Value}
    (h : Kept T E sz base F vT vW vs Xs w) (hTE : E ≠ T) (hEB : E ≠ TBook) (hTB : T ≠ TBook) (hFb : F b) (hbb : base ≤ w.heap.size) (hB : w.heap[b]? = some (.cells cs TBook (0, 0)))
    (hv : w.ownsRow base E sz v X.1 X.2) (hnew : ∀ g, v.ownBlock = some g → ¬ F g)
    (hT' : w2.ownsRow base T 1 vT' (vs.length + 1) (vs ++ [v])) (hg2 : (w.alloc o).grownBy w2 vT.ownBlock) (hat2 : vT'.ownBlock = vT.ownBlock ∨ vT'.ownBlock = some (w.alloc o).heap.size)
    (hb4 : Below (w2.setCell ⟨b, i0, none⟩ vT').heap.size (w2.setCell ⟨b, i0, none⟩ vT') w4) (hu : w4.ownsRow (w2.setCell ⟨b, i0, none⟩ vT').heap.size E sz u X.1 X.2)
    {ws : List Value} (hwl : ws.length = vs.length) (hW : w.ownsRow base T 1 vW ws.length ws) (hws : ∀ (i : Nat) (u : Value) (X : Nat × List Value), ws[i]? = some u → Xs[i]? = some X → w.ownsRow base E sz u X.1 X.2) (hwF : ∀ u ∈ ws, ∀ g, u.ownBlock = some g → F g)
    (hW5 : w5.ownsRow base T 1 vW' (ws.length + 1) (ws ++ [u])) (hg5 : (w4.alloc o').grownBy w5 vW.ownBlock) (hat5 : vW'.ownBlock = vW.ownBlock ∨ vW'.ownBlock = some (w4.alloc o').heap.size) :
    Kept T E sz base (fun g => F g ∨ v.ownBlock = some g ∨ (w.heap.size ≤ g ∧ g < w5.heap.size)) vT' vW' (vs ++ [v]) (Xs ++ [X]) (w5.setCell ⟨b, i1, none⟩ vW') ∧
    Frame F w (w5.setCell ⟨b, i1, none⟩ vW') ∧ w.heap.size ≤ w5.heap.size := by
  have hblt : b < w.heap.size := (Array.getElem?_eq_some_iff.1 hB).1
  have sz2 : w.heap.size + 1 ≤ w2.heap.size := by have := hg2.size; simpa using this
  have sz4 : w2.heap.size ≤ w4.heap.size := by have := hb4.size; simpa [World.setCell] using this
  have sz5 : w4.heap.size + 1 ≤ w5.heap.size := by have := hg5.size; simpa using this
  -- frames
  have f2 : Frame (fun g => vT.ownBlock = some g) w w2 := (Frame.of_below (F := fun g => vT.ownBlock = some g) ((Below.refl _ w).alloc (Nat.le_refl _) o)).trans (Frame.of_grown (F := fun g => vT.ownBlock = some g) hg2 (fun k hk => hk)) (fun _ h => .inl h)
  have f3 : Frame (fun g => vT.ownBlock = some g ∨ g = b) w (w2.setCell ⟨b, i0, none⟩ vT') := (f2.weaken (G := fun g => vT.ownBlock = some g ∨ g = b) (fun _ h => .inl h)).trans (Frame.of_grown (F := fun g => g = b) grown_set (fun k hk => by cases hk; rfl)) (fun _ h => .inl (.inr h))
  have f4 : Frame (fun g => vT.ownBlock = some g ∨ g = b) w w4 := f3.trans (Frame.of_below (F := fun _ => False) hb4) (fun _ h => h.elim)
  have f5' : Frame (fun g => vW.ownBlock = some g) w4 w5 := (Frame.of_below (F := fun g => vW.ownBlock = some g) ((Below.refl _ w4).alloc (Nat.le_refl _) o')).trans (Frame.of_grown (F := fun g => vW.ownBlock = some g) hg5 (fun k hk => hk)) (fun _ h => .inl h)
  have f5 : Frame (fun g => vT.ownBlock = some g ∨ g = b ∨ vW.ownBlock = some g) w w5 := (f4.weaken (G := fun g => vT.ownBlock = some g ∨ g = b ∨ vW.ownBlock = some g) (fun _ h => by rcases h with h | h; exact .inl h; exact .inr (.inl h))).trans f5' (fun _ h => .inl (.inr (.inr h)))
  have f6 : Frame (fun g => vT.ownBlock = some g ∨ g = b ∨ vW.ownBlock = some g) w (w5.setCell ⟨b, i1, none⟩ vW') := f5.trans (Frame.of_grown (F := fun g => g = b) grown_set (fun k hk => by cases hk; rfl)) (fun _ h => .inl (.inr (.inl h)))
  -- rows of elements stay
  have stayE : ∀ {x : Value} {n : Nat} {xs : List Value}, w.ownsRow base E sz x n xs → (w5.setCell ⟨b, i1, none⟩ vW').ownsRow base E sz x n xs := fun hx => f6.row hx (fun g hg hG => by
    rcases hG with hG | hG | hG
    · exact rows_apart hx h.rowT hTE g hg hG
    · subst hG; exact row_not_struct hx hB hEB hg
    · exact rows_apart hx hW hTE g hg hG)
  have hB5 : w5.heap[b]? ≠ none := by rw [Array.getElem?_eq_getElem (by omega)]; simp
  -- the block of the book is a struct's in all worlds
  have hbT : vT.ownBlock ≠ some b := row_not_struct h.rowT hB hTB
  have hbW : vW.ownBlock ≠ some b := row_not_struct hW hB hTB
  have hB2 : w2.heap[b]? = some (.cells cs TBook (0, 0)) := f2.at hB hbT
  have hB3 : ∃ cs', (w2.setCell ⟨b, i0, none⟩ vT').heap[b]? = some (.cells cs' TBook (0, 0)) := ⟨_, heap_setCell_same w2 b i0 _ _ _ hB2⟩
  obtain ⟨cs3, hB3⟩ := hB3
  have hB4 : w4.heap[b]? = some (.cells cs3 TBook (0, 0)) := (hb4.block b (Array.getElem?_eq_some_iff.1 hB3).1).trans hB3
  have hB5 : w5.heap[b]? = some (.cells cs3 TBook (0, 0)) := f5'.at hB4 hbW
  -- the list's row
  have hTne : ∀ g, vT'.ownBlock = some g → vW.ownBlock ≠ some g := fun g hg hgW => by
    rcases hat2 with e | e
    · rw [e] at hg; exact h.apartTW g hg hgW
    · rw [hg] at e
      have := (hW.lt g hgW).2
      simp at e; omega
  have hT3 := row_set (i := i0) (x := vT') hT' (row_not_struct hT' hB2 hTB)
  have hT4 := row_on hT3 hb4
  have hT5 := f5'.row hT4 hTne
  have hT6 := row_set (b := b) (i := i1) (x := vW') hT5 (row_not_struct hT5 hB5 hTB)
  -- the copies' row
  have hW4 : w4.ownsRow base T 1 vW ws.length ws := f4.row hW (fun g hg hG => by
    rcases hG with hG | hG
    · exact h.apartTW g hG hg
    · subst hG; exact hbW hg)
  have hW6 := row_set (b := b) (i := i1) (x := vW') hW5 (row_not_struct hW5 hB5 hTB)
  -- the copy
  have hu' : w4.ownsRow base E sz u X.1 X.2 := row_base hu (by simp [World.setCell]; omega)
  have hu5 := f5'.row hu' (fun g hg => rows_apart hu' hW4 hTE g hg)
  have hu6 := row_set (b := b) (i := i1) (x := vW') hu5 (row_not_struct hu5 hB5 hEB)
  refine ⟨⟨by simp [h.len], by simpa using hT6, ⟨ws ++ [u], by simp [hwl], by simpa using hW6, ?_, ?_⟩, ?_, ?_, ?_, ?_, ?_, ?_⟩, f6.weaken (fun g hg => by
    rcases hg with hg | hg | hg
    · exact h.inT g hg
    · rw [hg]; exact hFb
    · exact h.inW g hg), by omega⟩
  · intro i x Y hx hY
    rcases get_snoc hx with ⟨h1, h2⟩ | ⟨h1, rfl⟩
    · rcases get_snoc hY with ⟨h3, h4⟩ | ⟨h3, rfl⟩
      · exact stayE (hws i x Y h2 h4)
      · exfalso; have := h.len; omega
    · rcases get_snoc hY with ⟨h3, h4⟩ | ⟨h3, rfl⟩
      · exfalso; have := h.len; omega
      · exact hu6
  · intro x hx g hg
    rcases List.mem_append.1 hx with hx | hx
    · exact .inl (hwF x hx g hg)
    · rw [List.mem_singleton.1 hx] at hg
      have h1 := (hu.lt g hg).1
      have h2 := (hu.lt g hg).2
      simp [World.setCell] at h1
      exact .inr (.inr ⟨by omega, by omega⟩)
  · intro i x Y hx hY
    rcases get_snoc hx with ⟨h1, h2⟩ | ⟨h1, rfl⟩
    · rcases get_snoc hY with ⟨h3, h4⟩ | ⟨h3, rfl⟩
      · exact stayE (h.rows i x Y h2 h4)
      · exfalso; have := h.len; omega
    · rcases get_snoc hY with ⟨h3, h4⟩ | ⟨h3, rfl⟩
      · exfalso; have := h.len; omega
      · exact stayE hv
  · intro g hg hgW
    rcases hat5 with e | e
    · rw [e] at hgW; exact hTne g hg hgW
    · rw [hgW] at e
      have := (hT4.lt g hg).2
      simp at e; omega
  · intro i j x y g hx hy hij hg hgy
    rcases get_snoc hx with ⟨h1, h2⟩ | ⟨h1, rfl⟩
    · rcases get_snoc hy with ⟨h3, h4⟩ | ⟨h3, rfl⟩
      · exact h.apart i j x y g h2 h4 hij hg hgy
      · exact hnew g hgy (h.inV x (List.mem_of_getElem? h2) g hg)
    · rcases get_snoc hy with ⟨h3, h4⟩ | ⟨h3, rfl⟩
      · exact hnew g hg (h.inV y (List.mem_of_getElem? h4) g hgy)
      · omega
  · intro g hg
    rcases hat2 with e | e
    · rw [e] at hg; exact .inl (h.inT g hg)
    · have h9 := (hT'.lt g hg).2
      rw [hg] at e; simp at e; exact .inr (.inr ⟨by omega, by omega⟩)
  · intro g hg
    rcases hat5 with e | e
    · rw [e] at hg; exact .inl (h.inW g hg)
    · have h9 := (hW5.lt g hg).2
      rw [hg] at e; simp at e; exact .inr (.inr ⟨by omega, by omega⟩)
  · intro x hx g hg
    rcases List.mem_append.1 hx with hx | hx
    · exact .inl (h.inV x hx g hg)
    · rw [List.mem_singleton.1 hx] at hg; exact .inr (.inl hg)

/-- a list of texts as cells -/
def strX (L : List ByteArray) : Nat × List Value := (L.length, L.map .string)
/-- a book of lists of texts; its blocks are of F -/
structure BookSt (base : Nat) (F : Nat → Prop) (b : Nat) (vS vX : Value) (vs : List Value) (Ls : List (List ByteArray)) (w : World) : Prop where
  st : ∃ vT vW, BookAt b vT vW vS vX w ∧ Kept 23 9 1 base F vT vW vs (Ls.map strX) w
  inb : F b
  lt : ∀ g, F g → base ≤ g ∧ g < w.heap.size
theorem BookSt.frame {base : Nat} {F G : Nat → Prop} {b : Nat} {vS vX : Value} {vs : List Value} {Ls : List (List ByteArray)} {w w' : World} (h : BookSt base F b vS vX vs Ls w) (hf : Frame G w w') (hd : ∀ g, F g → ¬ G g) : BookSt base F b vS vX vs Ls w' := by
  obtain ⟨vT, vW, hB, hK⟩ := h.st
  exact ⟨⟨vT, vW, hB.kept (hf.block b hB.lt (hd b h.inb)), hK.frame hf hd⟩, h.inb, fun g hg => ⟨(h.lt g hg).1, Nat.lt_of_lt_of_le (h.lt g hg).2 hf.size⟩⟩
theorem BookSt.below {base : Nat} {F : Nat → Prop} {b : Nat} {vS vX : Value} {vs : List Value} {Ls : List (List ByteArray)} {w w' : World} (h : BookSt base F b vS vX vs Ls w) (hb : Below w.heap.size w w') : BookSt base F b vS vX vs Ls w' :=
  h.frame (Frame.of_below (F := fun _ => False) hb) (fun _ _ h => h)
theorem BookSt.fresh {base : Nat} (w : World) (hb : base ≤ w.heap.size) : BookSt base (fun g => g = w.heap.size) w.heap.size nilS nilS [] [] (w.alloc (.cells (bookCells nilS nilS nilS nilS) TBook)) :=
  ⟨⟨nilS, nilS, BookAt.fresh w, Kept.nil _ _ _ _ _ _⟩, rfl, fun g hg => by subst hg; exact ⟨hb, by simp⟩⟩
end Go.Proofs.YtbblgnbafecdmaaGreatDoor.bk
