/- HtmlNotes: the plain law; what its loop holds. -/
import Derived.Test.YtpabackkapgkpaaGreatDoorHRows
import Derived.Test.YtpabackkapgkpaaGreatDoorRow
namespace Go.Proofs.YtpabackkapgkpaaGreatDoor
open Go.RowKit Go.Lib

def noteI (nm : ByteArray) : Inl := ⟨10, 0, nm, ⟨#[]⟩, ⟨#[]⟩⟩
def noteStep (c : Cfg) (s : HSt) (nm : ByteArray) : HSt := (nodeS c (noteI nm) s).2.2.put (nodeS c (noteI nm) s).1
theorem notes_fold (c : Cfg) : ∀ (l : List ByteArray) (s : HSt), nodesS c (l.map noteI) s = l.foldl (noteStep c) s
  | [], s => by rw [List.map_nil, nodesS_nil]; rfl
  | x :: l, s => by
    have h0 : inside (noteI x).depth (l.map noteI) = 0 := by cases l <;> simp [inside, noteI]
    have h1 : (nodeS c (noteI x) s).2.1 = [] := by
      unfold nodeS noteI
      rw [if_pos (show (10 : Int) = 10 from rfl)]
      split <;> rfl
    rw [List.map_cons, nodesS_cons, h0, List.take_zero, List.drop_zero, nodesS_nil, h1, List.foldl_cons, ← notes_fold c l]
    simp [noteStep, HSt.put]
/-- the state behind the first i names -/
def noteAt (c : Cfg) (l : List ByteArray) (i : Nat) : HSt := (l.take i).foldl (noteStep c) ⟨[], [], [], [], []⟩
theorem noteAt_succ (c : Cfg) (l : List ByteArray) (i : Nat) (h : i < l.length) : noteAt c l (i + 1) = noteStep c (noteAt c l i) l[i] := by
  unfold noteAt
  rw [List.take_succ_eq_append_getElem h, List.foldl_append]
  rfl
theorem noteAt_fits (c : Cfg) (hc : c.Small) (l : List ByteArray) (hl : l.length ≤ 1000) : ∀ i, i ≤ l.length → (∀ x ∈ l.take i, x.size ≤ 100000) → Fits (5000 - i) (noteAt c l i) ∧ (noteAt c l i).dg = [] ∧ (noteAt c l i).out.length ≤ 20000000 * i
  | 0, _, _ => ⟨fits_nil (by omega), rfl, by simp [noteAt]⟩
  | i + 1, h, hs => by
    have hs' : ∀ x ∈ l.take i, x.size ≤ 100000 := fun x hx => hs x (by rw [List.take_succ_eq_append_getElem (by omega)]; exact List.mem_append_left _ hx)
    have hxi : l[i].size ≤ 100000 := hs _ (by rw [List.take_succ_eq_append_getElem (by omega)]; exact List.mem_append_right _ (List.mem_singleton.2 rfl))
    obtain ⟨h1, h2, h3⟩ := noteAt_fits c hc l hl i (by omega) hs'
    rw [noteAt_succ c l i (by omega)]
    have hx : (noteI l[i]).Small := ⟨hxi, by show (0 : Nat) ≤ 100000; omega, by show (0 : Nat) ≤ 100000; omega⟩
    have e : 5000 - i = (5000 - (i + 1)) + 1 := by omega
    rw [e] at h1
    have hlen := nodeS_length hx hc h1
    refine ⟨(h1.node hx).put _, ?_, ?_⟩
    · show (nodeS c (noteI l[i]) (noteAt c l i)).2.2.dg = []
      unfold nodeS noteI
      rw [if_pos (show (10 : Int) = 10 from rfl)]
      split
      · show (refS _ _).2.2.dg = []
        rw [refS_dg]; exact h2
      · exact h2
    · show ((nodeS c (noteI l[i]) (noteAt c l i)).2.2.out ++ (nodeS c (noteI l[i]) (noteAt c l i)).1).length ≤ _
      rw [nodeS_out, List.length_append]
      omega
/-- the law's own notes are asked -/
theorem refn_own {W : World} {F : Nat → Prop} {n2 N : Nat} {s : HSt} {w : World} {nm : ByteArray} (hN : NotesAt 35 W.heap.size F n2 s.L s.C w) (hB : W.heap.size ≤ w.heap.size) (hf : Fits (N + 1) s) (hn : nm.size ≤ 100000) :
    Calls Tryz.prog 20 #[.pointer (some ⟨n2, 0, none⟩), .string nm] w fun e w' => e = .returned (.tuple #[.int .i64 (refS nm s).1, .int .i64 (refS nm s).2.1]) ∧ (∃ F', NotesAt 35 W.heap.size F' n2 (refS nm s).2.2.L (refS nm s).2.2.C w' ∧ ∀ k, F' k → F k ∨ w.heap.size ≤ k) ∧ Frame F w w' := by
  have hsm : ∀ x ∈ s.L, x.size ≤ 9223372036854775807 := fun x hx => by have := hf.small x hx; omega
  have hL : s.L.length ≤ 100000 := by have := hf.names; omega
  rcases refS_cases nm s hf.len with ⟨hidx, e⟩ | ⟨i, c, hi, hidx, hc, e⟩
  · rw [e]
    exact ref_new hN hidx hL (by omega) hsm hB
  · rw [e]
    have hcb := hf.nums c (List.mem_of_getElem? hc)
    refine (ref_found hN hc hidx hL (by omega) hsm hcb.1 (by omega)).mono ?_
    rintro e w' ⟨rfl, h1, hfr⟩
    exact ⟨rfl, ⟨F, h1, fun k hk => .inl hk⟩, hfr⟩

theorem NotesAt.kindsN {base : Nat} {F : Nat → Prop} {b : Nat} {L : List ByteArray} {C : List Int} {w : World} (h : NotesAt 35 base F b L C w) : ∀ k, F k → ∃ cs T, w.heap[k]? = some (.cells cs T (0, 0)) ∧ T ≠ 45 := by
  obtain ⟨hg, hl, v1, v2, hb, h1, h2, hF⟩ := h
  intro k hk
  rcases (hF k).1 hk with rfl | e | e
  · exact ⟨_, _, hb, by decide⟩
  · obtain ⟨-, cur, hc⟩ := row_block h1 e
    exact ⟨_, _, hc, by decide⟩
  · obtain ⟨-, cur, hc⟩ := row_block h2 e
    exact ⟨_, _, hc, by decide⟩
theorem NotesAt.apart {base : Nat} {F : Nat → Prop} {b : Nat} {L : List ByteArray} {C : List Int} {w : World} (h : NotesAt 35 base F b L C w) {base' : Nat} {v : Value} {n : Nat} {xs : List Value} (hr : w.ownsRow base' 45 5 v n xs) : ∀ k, F k → v.ownBlock ≠ some k := by
  intro k hk e
  obtain ⟨c1, T, h1, h2⟩ := h.kindsN k hk
  obtain ⟨-, c2, h3⟩ := row_block hr e
  rw [h1] at h3
  simp only [Option.some.injEq, Obj.cells.injEq] at h3
  exact h2 h3.2.1
theorem Pen.framed {w0 : World} {n co no ra : Bool} {de : Int} {wb nb : Nat} {L : List ByteArray} {C : List Int} {Fn G : Nat → Prop} {w w' : World} (h : Pen w0 ⟨n, co, no, ra, de, []⟩ wb nb L C Fn w) (hf : Frame G w w') (h1 : ∀ k, G k → w0.heap.size ≤ k) (h2 : ¬ G wb) (h3 : ∀ k, Fn k → ¬ G k) : Pen w0 ⟨n, co, no, ra, de, []⟩ wb nb L C Fn w' := by
  obtain ⟨vS, hc, hS, -⟩ := h.writer.cells
  obtain ⟨a, cap, rfl, g1, g2, g3, -⟩ := hS
  exact ⟨hf.on_below h1 h.below (Nat.le_refl _), ⟨⟨_, hf.at hc h2, ⟨a, cap, rfl, g1, g2, g3, .inl rfl⟩, fun he => absurd rfl he⟩, h.writer.out⟩, h.notes.frame hf h3⟩

/-- what the loop holds: the writer, the law's own notes, the nodes gathered so far -/
structure NL (W : World) (on : Bool) (wb nb n2 B : Nat) (l : List ByteArray) (i : Nat) (v : Value) (w : World) : Prop where
  pen : Pen W ⟨false, false, on, false, 0, []⟩ wb nb [] [] (· = nb) w
  notes : ∃ F, NotesAt 35 W.heap.size F n2 (noteAt ⟨false, false, on, false, 0, []⟩ l i).L (noteAt ⟨false, false, on, false, 0, []⟩ l i).C w ∧ ∀ k, F k → n2 ≤ k
  row : w.ownsRow B 45 5 v i (((l.take i).map noteI).flatMap Inl.cells)
  hB : n2 < B
  hn : nb < n2 ∧ wb < n2
  hBw : B ≤ w.heap.size
  hW : W.heap.size ≤ nb ∧ W.heap.size ≤ wb
/-- a node is gathered -/
theorem NL.push {W : World} {on : Bool} {wb nb n2 B : Nat} {l : List ByteArray} {i : Nat} {v v' : Value} {w w4 : World} {o : Obj} (h : NL W on wb nb n2 B l i v w) (hi : i < l.length) (hown : w4.ownsRow B 45 5 v' (i + 1) (((l.take i).map noteI).flatMap Inl.cells ++ (noteI l[i]).cells)) (hgr : (w.alloc o).grownBy w4 v.ownBlock) :
    Pen W ⟨false, false, on, false, 0, []⟩ wb nb [] [] (· = nb) w4 ∧ (∃ F, NotesAt 35 W.heap.size F n2 (noteAt ⟨false, false, on, false, 0, []⟩ l i).L (noteAt ⟨false, false, on, false, 0, []⟩ l i).C w4 ∧ ∀ k, F k → n2 ≤ k) ∧ w4.ownsRow B 45 5 v' (i + 1) (((l.take (i + 1)).map noteI).flatMap Inl.cells) ∧ B ≤ w4.heap.size := by
  have hb1 := (Below.refl _ w).alloc (Nat.le_refl _) o
  have hfr : Frame (fun k => v.ownBlock = some k) (w.alloc o) w4 := Frame.of_grown hgr (fun k hk => hk)
  have hbk : ∀ k, v.ownBlock = some k → B ≤ k := fun k hk => (h.row.lt k hk).1
  have h1 := h.hn
  have h2 := h.hB
  have h3 := h.hW
  obtain ⟨F, hN, hF⟩ := h.notes
  refine ⟨(h.pen.on hb1).framed hfr (fun k hk => by have := hbk k hk; omega) (fun hk => by have := hbk _ hk; omega) (fun k hk hg => by have := hbk _ hg; have hk : k = nb := hk; omega), ⟨F, (hN.frame (Frame.of_below (F := fun _ => False) hb1) (fun _ _ h => h)).frame hfr (fun k hk hg => hN.apart h.row k hk hg), hF⟩, ?_, ?_⟩
  · rw [List.take_succ_eq_append_getElem hi, List.map_append, List.flatMap_append]
    simpa using hown
  · have := hgr.size
    have := h.hBw
    simp at *
    omega
theorem NL.on {W : World} {on : Bool} {wb nb n2 B : Nat} {l : List ByteArray} {i : Nat} {v : Value} {w w' : World} (h : NL W on wb nb n2 B l i v w) (hb : Below w.heap.size w w') : NL W on wb nb n2 B l i v w' := by
  obtain ⟨F, hN, hF⟩ := h.notes
  exact ⟨h.pen.on hb, ⟨F, hN.frame (Frame.of_below (F := fun _ => False) hb) (fun _ _ h => h), hF⟩, row_kept h.row (fun g hg => hb.block g (h.row.lt g hg).2), h.hB, h.hn, Nat.le_trans h.hBw hb.size, h.hW⟩
/-- a note has been asked for -/
theorem NL.asked {W : World} {on : Bool} {wb nb n2 : Nat} {w w' : World} {F : Nat → Prop} (h1 : Pen W ⟨false, false, on, false, 0, []⟩ wb nb [] [] (· = nb) w) (hfr : Frame F w w') (hF : ∀ k, F k → n2 ≤ k) (hn : nb < n2 ∧ wb < n2) (hW : W.heap.size ≤ nb) : Pen W ⟨false, false, on, false, 0, []⟩ wb nb [] [] (· = nb) w' :=
  h1.framed hfr (fun k hk => by have := hF k hk; omega) (fun hk => by have := hF _ hk; omega) (fun k hk hg => by have := hF _ hg; have hk : k = nb := hk; omega)
end Go.Proofs.YtpabackkapgkpaaGreatDoor
