/- A writer and its notes, handed to Inline and Blocks; nodes and blocks that a call has made. -/
import Derived.Test.YtpabackkapgkpaaGreatDoorHBlocks
namespace Go.Proofs.YtpabackkapgkpaaGreatDoor
open Go.RowKit Go.Lib

/-- a writer in block wb, its notes in block nb -/
structure Pen (w0 : World) (c : Cfg) (wb nb : Nat) (L : List ByteArray) (C : List Int) (Fn : Nat → Prop) (w : World) : Prop where
  below : Below w0.heap.size w0 w
  writer : WriterAt w Fn c wb nb
  notes : NotesAt 35 w0.heap.size Fn nb L C w
theorem Pen.on {w0 : World} {c : Cfg} {wb nb : Nat} {L : List ByteArray} {C : List Int} {Fn : Nat → Prop} {w w' : World} (h : Pen w0 c wb nb L C Fn w) (hb : Below w.heap.size w w') : Pen w0 c wb nb L C Fn w' :=
  ⟨h.below.trans (hb.mono h.below.size), h.writer.on hb, h.notes.frame (Frame.of_below (F := fun _ => False) hb) (fun _ _ h => h)⟩
theorem Pen.fresh {w0 w : World} (hB : Below w0.heap.size w0 w) (n co no ra : Bool) (de : Int) (secs : List Sec) (vS : Value) (hS : SecsIn w w.heap.size vS secs) :
    Pen w0 ⟨n, co, no, ra, de, secs⟩ (w.heap.size + 1) w.heap.size [] [] (· = w.heap.size) ((w.alloc (.cells #[.slice none 0 0, .slice none 0 0] 35)).alloc (.cells #[.bool n, .bool co, .bool no, .bool ra, .int .i64 de, vS, .pointer (some ⟨w.heap.size, 0, none⟩)] 37)) := by
  have b1 := (Below.refl w.heap.size w).alloc (Nat.le_refl _) (.cells #[.slice none 0 0, .slice none 0 0] 35)
  have s1 : (w.alloc (.cells #[.slice none 0 0, .slice none 0 0] 35)).heap.size = w.heap.size + 1 := by simp
  have b2 := (Below.refl _ (w.alloc (.cells #[.slice none 0 0, .slice none 0 0] 35))).alloc (Nat.le_refl _) (.cells #[.bool n, .bool co, .bool no, .bool ra, .int .i64 de, vS, .pointer (some ⟨w.heap.size, 0, none⟩)] 37)
  have hN := NotesAt.fresh (T := 35) (base := w0.heap.size) w hB.size
  have b12 := b1.trans (b2.mono b1.size)
  refine ⟨hB.trans (b12.mono hB.size), ⟨⟨vS, ?_, (hS.below b12).mono b12.size, ?_⟩, by show ¬ w.heap.size + 1 = w.heap.size; omega⟩, hN.frame (Frame.of_below (F := fun _ => False) b2) (fun _ _ h => h)⟩
  · have := heap_alloc_new (w.alloc (.cells #[.slice none 0 0, .slice none 0 0] 35)) (.cells #[.bool n, .bool co, .bool no, .bool ra, .int .i64 de, vS, .pointer (some ⟨w.heap.size, 0, none⟩)] 37)
    rw [s1] at this
    exact this
  · intro he a len cap e
    obtain ⟨a', cap', e', -, -, -, h4⟩ := hS
    rcases h4 with h4 | ⟨b, o, rfl, hlt, -⟩
    · exact absurd h4 he
    · rw [e'] at e
      simp only [Value.slice.injEq, Option.some.injEq] at e
      rw [← e.1]
      show ¬ b = w.heap.size
      omega
/-- behind a call of the writer -/
theorem Pen.next {w0 : World} {c : Cfg} {wb nb : Nat} {L : List ByteArray} {C : List Int} {Fn : Nat → Prop} {w w' : World} {s : HSt} {vd : Value} (h : Pen w0 c wb nb L C Fn w) (hp : WrPost w0 w Fn nb s vd w') : ∃ F', (∀ k, F' k → Fn k ∨ w.heap.size ≤ k) ∧ Pen w0 c wb nb s.L s.C F' w' := by
  obtain ⟨F', hN, hF⟩ := hp.notes
  obtain ⟨vS, hc, hS, h1⟩ := h.writer.cells
  have hlt := (Array.getElem?_eq_some_iff.1 hc).1
  refine ⟨F', hF, hp.below, ⟨⟨vS, hp.frame.at hc h.writer.out, ?_, ?_⟩, fun hf => ?_⟩, hN⟩
  · obtain ⟨a, cap, rfl, g1, g2, g3, g4⟩ := hS
    refine ⟨a, cap, rfl, g1, g2, g3, ?_⟩
    by_cases he : c.secs = []
    · exact .inl he
    rcases g4 with g4 | ⟨b, o, rfl, hb, g4⟩
    · exact .inl g4
    · have hk : ∀ j, w'.cell? ⟨b, j, none⟩ = w.cell? ⟨b, j, none⟩ := fun j => by simp [World.cell?, hp.frame.block b hb (h1 he _ _ _ rfl)]
      exact .inr ⟨b, o, rfl, Nat.lt_of_lt_of_le hb hp.frame.size, fun i hi => ⟨(hk _).trans (g4 i hi).c0, (hk _).trans (g4 i hi).c1, (hk _).trans (g4 i hi).c2, (hk _).trans (g4 i hi).c3⟩⟩
  · intro he a len cap e hf
    obtain ⟨a', cap', e', -, -, -, g4⟩ := hS
    rcases g4 with g4 | ⟨b, o, rfl, hb, -⟩
    · exact he g4
    · rw [e'] at e
      simp only [Value.slice.injEq, Option.some.injEq] at e
      rcases hF _ hf with g | g
      · exact h1 he _ _ _ (by rw [e']) (by rw [e.1]; exact g)
      · rw [← e.1] at g
        have g : w.heap.size ≤ b := g
        omega
  · rcases hF _ hf with g | g
    · exact h.writer.out g
    · omega

theorem flat_get {α : Type} {f : α → List Value} {k : Nat} (hf : ∀ x, (f x).length = k) : ∀ (l : List α) (i j : Nat) (h : i < l.length), j < k → (l.flatMap f)[i * k + j]? = (f l[i])[j]?
  | x :: l, 0, j, _, hj => by
    rw [List.flatMap_cons, Nat.zero_mul, Nat.zero_add, List.getElem?_append_left (by rw [hf]; exact hj)]
    rfl
  | x :: l, i + 1, j, h, hj => by
    have e : (i + 1) * k + j = (f x).length + (i * k + j) := by rw [hf, Nat.add_mul, Nat.one_mul]; omega
    rw [List.flatMap_cons, e, List.getElem?_append_right (by omega), Nat.add_sub_cancel_left, flat_get hf l i j (by simpa using h) hj]
    rfl
theorem Inl.cells_len (x : Inl) : x.cells.length = 5 := rfl
theorem Blk.cells_len (x : Blk) : x.cells.length = 6 := rfl

theorem inls_at {w : World} {Fn : Nat → Prop} {l : List Inl} {g cap : Nat} (hlt : g < w.heap.size) (hF : ¬ Fn g) (hc : l.length ≤ cap) (hm : cap ≤ 9223372036854775807) (h : ∀ i u, (l.flatMap Inl.cells)[i]? = some u → w.cell? ⟨g, i, none⟩ = some u) : InlsIn w Fn (.slice (some ⟨g, 0, none⟩) l.length cap) l := by
  refine ⟨_, cap, rfl, hc, hm, .inr ⟨g, 0, rfl, hlt, hF, fun i hi => ?_⟩⟩
  have k := fun j (hj : j < 5) => flat_get Inl.cells_len l i j hi hj
  refine ⟨?_, ?_, ?_, ?_, ?_⟩
  · have := h (i * 5 + 0) _ (k 0 (by omega)); simpa using this
  · have := h (i * 5 + 1) _ (k 1 (by omega)); simpa using this
  · have := h (i * 5 + 2) _ (k 2 (by omega)); simpa using this
  · have := h (i * 5 + 3) _ (k 3 (by omega)); simpa using this
  · have := h (i * 5 + 4) _ (k 4 (by omega)); simpa using this
theorem blks_at {w : World} {Fn : Nat → Prop} {l : List Blk} {g cap : Nat} (hlt : g < w.heap.size) (hF : ¬ Fn g) (hc : l.length ≤ cap) (hm : cap ≤ 9223372036854775807) (h : ∀ i u, (l.flatMap Blk.cells)[i]? = some u → w.cell? ⟨g, i, none⟩ = some u) : BlksIn w Fn (.slice (some ⟨g, 0, none⟩) l.length cap) l := by
  refine ⟨_, cap, rfl, hc, hm, .inr ⟨g, 0, rfl, hlt, hF, fun i hi => ?_⟩⟩
  have k := fun j (hj : j < 6) => flat_get Blk.cells_len l i j hi hj
  refine ⟨?_, ?_, ?_, ?_, ?_, ?_⟩
  · have := h (i * 6 + 0) _ (k 0 (by omega)); simpa using this
  · have := h (i * 6 + 1) _ (k 1 (by omega)); simpa using this
  · have := h (i * 6 + 2) _ (k 2 (by omega)); simpa using this
  · have := h (i * 6 + 3) _ (k 3 (by omega)); simpa using this
  · have := h (i * 6 + 4) _ (k 4 (by omega)); simpa using this
  · have := h (i * 6 + 5) _ (k 5 (by omega)); simpa using this
/-- nodes that a call has laid -/
theorem inls_lit {w : World} {Fn : Nat → Prop} {m : Nat} (hw : w.heap.size = m) (l : List Inl) {cs : Array Value} (hcs : cs = (l.flatMap Inl.cells).toArray) (hl : l.length ≤ 1000000) (hF : ¬ Fn m) : InlsIn (w.alloc (.cells cs 45)) Fn (.slice (some ⟨m, 0, none⟩) l.length l.length) l := by
  subst hw hcs
  refine inls_at (by simp) hF (Nat.le_refl _) (by omega) fun i u hu => ?_
  rw [Lib.cell_of_heap (heap_alloc_new w _)]
  simpa using hu
theorem blks_lit {w : World} {Fn : Nat → Prop} {m : Nat} (hw : w.heap.size = m) (l : List Blk) {cs : Array Value} (hcs : cs = (l.flatMap Blk.cells).toArray) (hl : l.length ≤ 1000000) (hF : ¬ Fn m) : BlksIn (w.alloc (.cells cs 50)) Fn (.slice (some ⟨m, 0, none⟩) l.length l.length) l := by
  subst hw hcs
  refine blks_at (by simp) hF (Nat.le_refl _) (by omega) fun i u hu => ?_
  rw [Lib.cell_of_heap (heap_alloc_new w _)]
  simpa using hu
/-- nodes in a row of the call's own -/
theorem inls_row {w : World} {Fn : Nat → Prop} {base : Nat} {v : Value} {l : List Inl} (h : w.ownsRow base 45 5 v l.length (l.flatMap Inl.cells)) (hF : ∀ g, v.ownBlock = some g → ¬ Fn g) : InlsIn w Fn v l := by
  have h9 := h
  obtain ⟨h1, h2⟩ := h
  rcases h2 with ⟨rfl, h0⟩ | ⟨g, cap, cur, rfl, hb, hg, hnc, hcm, hcs, ht⟩
  · have : l = [] := List.eq_nil_of_length_eq_zero (by rw [h0] at h1; simp at h1; omega)
    subst this
    exact inls_nil w Fn
  · exact inls_at (h9.lt g rfl).2 (hF g rfl) hnc hcm fun i u hu => by
      rw [h9.cellAt i (by have := (List.getElem?_eq_some_iff.1 hu).1; rwa [h9.1] at this)]; exact hu
theorem blks_row {w : World} {Fn : Nat → Prop} {base : Nat} {v : Value} {l : List Blk} (h : w.ownsRow base 50 6 v l.length (l.flatMap Blk.cells)) (hF : ∀ g, v.ownBlock = some g → ¬ Fn g) : BlksIn w Fn v l := by
  have h9 := h
  obtain ⟨h1, h2⟩ := h
  rcases h2 with ⟨rfl, h0⟩ | ⟨g, cap, cur, rfl, hb, hg, hnc, hcm, hcs, ht⟩
  · have : l = [] := List.eq_nil_of_length_eq_zero (by rw [h0] at h1; simp at h1; omega)
    subst this
    exact ⟨none, 0, rfl, Nat.le_refl _, by decide, .inl rfl⟩
  · exact blks_at (h9.lt g rfl).2 (hF g rfl) hnc hcm fun i u hu => by
      rw [h9.cellAt i (by have := (List.getElem?_eq_some_iff.1 hu).1; rwa [h9.1] at this)]; exact hu
theorem texts_nil (w : World) (Fn : Nat → Prop) : TextsIn w Fn (.slice none 0 0) [] := ⟨none, 0, rfl, Nat.le_refl _, by decide, .inl rfl⟩
theorem BlksIn.on {w w' : World} {G : Nat → Prop} {v : Value} {l : List Blk} (h : BlksIn w G v l) (hb : Below w.heap.size w w') : BlksIn w' G v l := by
  obtain ⟨a, cap, he, hc, hm, hl⟩ := h
  refine ⟨a, cap, he, hc, hm, ?_⟩
  rcases hl with hl | ⟨g, o, ha, hlt, hG, hat⟩
  · exact .inl hl
  · exact .inr ⟨g, o, ha, Nat.lt_of_lt_of_le hlt hb.size, hG, fun i hi => ⟨(hb.cell (p := ⟨g, _, none⟩) hlt).trans (hat i hi).c0, (hb.cell (p := ⟨g, _, none⟩) hlt).trans (hat i hi).c1, (hb.cell (p := ⟨g, _, none⟩) hlt).trans (hat i hi).c2, (hb.cell (p := ⟨g, _, none⟩) hlt).trans (hat i hi).c3, (hb.cell (p := ⟨g, _, none⟩) hlt).trans (hat i hi).c4, (hb.cell (p := ⟨g, _, none⟩) hlt).trans (hat i hi).c5⟩⟩

/-- what a call of the writer leaves: the text X, n diags, the notes -/
def PenPost (w0 : World) (c : Cfg) (wb nb : Nat) (Fn : Nat → Prop) (w : World) (s : HSt) (X : ByteArray) (e : Ending) (w' : World) : Prop :=
  ∃ a cap F', e = .returned (.tuple #[.string X, .slice a s.dg.length cap]) ∧ Pen w0 c wb nb s.L s.C F' w' ∧ Frame Fn w w' ∧ ∀ k, F' k → Fn k ∨ w.heap.size ≤ k
theorem PenPost.of {w0 : World} {c : Cfg} {wb nb : Nat} {L : List ByteArray} {C : List Int} {Fn : Nat → Prop} {w w' : World} {s : HSt} {e : Ending} {X : ByteArray} (h : Pen w0 c wb nb L C Fn w) (hX : X.data.toList = s.out) (hp : InlPost w0 w Fn nb s e w') : PenPost w0 c wb nb Fn w s X e w' := by
  obtain ⟨vd, rfl, hw⟩ := hp
  obtain ⟨a, cap, rfl⟩ := row_slice hw.dgs
  obtain ⟨F', hF, hP⟩ := h.next hw
  have : (⟨s.out.toArray⟩ : ByteArray) = X := ba_eq (by rw [hX, ba_mk])
  rw [this]
  exact ⟨a, cap, F', rfl, hP, hw.frame, hF⟩
theorem inline_pen {w0 w : World} {c : Cfg} {wb nb : Nat} {L : List ByteArray} {C : List Int} {Fn : Nat → Prop} {v : Value} {l : List Inl} {X : ByteArray} {s : HSt} (h : Pen w0 c wb nb L C Fn w) (hT : Tabs w0) (hc : c.Small) (hv : InlsIn w Fn v l) (hs : ∀ x ∈ l, x.Small) (hf : Fits l.length ⟨[], L, C, [], []⟩) (hl : l.length ≤ 5000)
    (hS : nodesS c l ⟨[], L, C, [], []⟩ = s) (hX : X.data.toList = s.out) :
    Calls Tryz.prog 15 #[.pointer (some ⟨wb, 0, none⟩), v] w (PenPost w0 c wb nb Fn w s X) :=
  (inline_any h.below h.writer h.notes hT hc hv hs hf hl).mono fun _ _ hp => PenPost.of h hX (by rw [hS] at hp; exact hp)
theorem blocks_pen {w0 w : World} {c : Cfg} {wb nb : Nat} {L : List ByteArray} {C : List Int} {Fn : Nat → Prop} {vb vt : Value} {bs : List Blk} {texts : List (List Inl)} {X : ByteArray} {s : HSt} (h : Pen w0 c wb nb L C Fn w) (hT : Tabs w0) (hc : c.Small) (ha : Anchored c)
    (hb : BlksIn w Fn vb bs) (ht : TextsIn w Fn vt texts) (hs : ∀ x ∈ bs, x.Small) (hts : TextsSmall texts) (hf : Fits (100 * bs.length) ⟨[], L, C, [], []⟩) (hl : bs.length ≤ 500) (h2 : ∀ x ∈ bs, x.kind ≠ 2)
    (hC : ∀ x ∈ bs, x.kind = 6 → PutOk 40 w0 Fn c wb nb x (codeL x)) (hR : ∀ x ∈ bs, x.kind = 8 → PutOk 41 w0 Fn c wb nb x (rawL c x))
    (hS : blocksF c texts bs 0 0 ⟨[], L, C, [], []⟩ = s) (hX : X.data.toList = s.out) :
    Calls Tryz.prog 19 #[.pointer (some ⟨wb, 0, none⟩), vb, vt] w (PenPost w0 c wb nb Fn w s X) :=
  (blocks_any h.below h.writer h.notes hT (fun _ _ _ => hc) (fun x hx heads k R i s _ hf hF => blockS_fits hc ha hts (hs x hx) hf hF) (fun _ _ => True) (fun _ _ _ => trivial) hb ht hs hts hf hl (fun x hx hk => absurd hk (h2 x hx)) hC hR).mono fun _ _ hp => PenPost.of h hX (by rw [hS] at hp; exact hp)
end Go.Proofs.YtpabackkapgkpaaGreatDoor
