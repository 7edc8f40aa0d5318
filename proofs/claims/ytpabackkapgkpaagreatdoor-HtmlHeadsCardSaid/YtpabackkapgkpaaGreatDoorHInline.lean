/- (*html.Writer).paper, Inline: the walks. -/
import Derived.Test.YtpabackkapgkpaaGreatDoorHNodesAll
namespace Go.Proofs.YtpabackkapgkpaaGreatDoor
open Go.RowKit Go.Lib

theorem row_nil (w : World) (base : Nat) (e : TypeId) (size : Nat) : w.ownsRow base e size (.slice none 0 0) 0 [] := ⟨by simp, .inl ⟨rfl, rfl⟩⟩

set_option maxHeartbeats 1000000 in
theorem paper_any (wb : Nat) (w : World) :
    Calls Tryz.prog 25 #[.pointer (some ⟨wb, 0, none⟩)] w fun e w' => e = .returned (.pointer (some ⟨w.heap.size, 0, none⟩)) ∧ Below w.heap.size w w' ∧ PaperAt w.heap.size w.heap.size (.pointer (some ⟨wb, 0, none⟩)) (.pointer none) (.slice none 0 0) [] w' := by
  go_enter Tryz.func25, Tryz.ntmps25
  go_wp2_with fail
  go_ret
  exact ⟨rfl, (Below.refl _ w).alloc (Nat.le_refl _) _, Nat.le_refl _, .slice none 0 0, heap_alloc_new w _, by simp [Lib.byteCells], .inl ⟨rfl, rfl⟩⟩

theorem PSt.fresh {w0 w w1 : World} {Fn : Nat → Prop} {nb : Nat} {wr : Value} {L : List ByteArray} {C : List Int} (hB : Below w0.heap.size w0 w) (hN : NotesAt 35 w0.heap.size Fn nb L C w) (hb : Below w.heap.size w w1) (hp : PaperAt w.heap.size w.heap.size wr (.pointer none) (.slice none 0 0) [] w1) :
    PSt w0 w Fn ⟨.slice none 0 0, fun _ => none⟩ w.heap.size wr nb ⟨[], L, C, [], []⟩ w1 :=
  ⟨hB.trans (hb.mono hB.size), hB.size, (Frame.of_below (F := fun _ => False) hb).weaken (fun _ h => h.elim), ⟨_, .inl hp, row_nil _ _ _ _⟩, ⟨Fn, hN.frame (Frame.of_below (F := fun _ => False) hb) (fun _ _ h => h), fun _ h => .inl h, fun _ _ h => by cases h⟩, row_nil _ _ _ _, fun _ _ h => by cases h⟩

theorem kept_none {w w' : World} (hk : Lib.OthersKept 5 none w w') {k : Nat} {cs : Array Value} {T : TypeId} {fz : Nat × Nat} (h : w.heap[k]? = some (.cells cs T fz)) (hT : T ≠ 5) : w'.heap[k]? = w.heap[k]? := by
  rw [h]
  exact hk k _ h (fun e => by cases e) (fun c f e => by cases e; exact hT rfl)
theorem row_none {w w' : World} (hk : Lib.OthersKept 5 none w w') {base : Nat} {e : TypeId} {size : Nat} {v : Value} {n : Nat} {xs : List Value} (h : w.ownsRow base e size v n xs) (he : e ≠ 5) : w'.ownsRow base e size v n xs :=
  row_kept h (fun g hg => by obtain ⟨-, cur, hc⟩ := row_block h hg; exact kept_none hk hc he)
theorem NotesAt.none {base : Nat} {F : Nat → Prop} {nb : Nat} {L : List ByteArray} {C : List Int} {w w' : World} (h : NotesAt 35 base F nb L C w) (hk : Lib.OthersKept 5 none w w') : NotesAt 35 base F nb L C w' := by
  obtain ⟨hg, hl, v1, v2, hnb, h1, h2, hF⟩ := h
  exact ⟨hg, hl, v1, v2, (kept_none hk hnb (by decide)).trans hnb, row_none hk h1 (by decide), row_none hk h2 (by decide), hF⟩

/-- what is left behind: what was written, what an author should know, the notes -/
structure WrPost (w0 w1 : World) (Fn : Nat → Prop) (nb : Nat) (s : HSt) (vd : Value) (w' : World) : Prop where
  dgs : w'.ownsRow w1.heap.size 123 2 vd s.dg.length (dgCells s.dg)
  below : Below w0.heap.size w0 w'
  frame : Frame Fn w1 w'
  notes : ∃ F', NotesAt 35 w0.heap.size F' nb s.L s.C w' ∧ ∀ k, F' k → Fn k ∨ w1.heap.size ≤ k
def InlPost (w0 w1 : World) (Fn : Nat → Prop) (nb : Nat) (s : HSt) (e : Ending) (w' : World) : Prop :=
  ∃ vd, e = .returned (.tuple #[.string ⟨s.out.toArray⟩, vd]) ∧ WrPost w0 w1 Fn nb s vd w'
theorem PSt.read {w0 w1 : World} {Fn : Nat → Prop} {v9 : Held} {b : Nat} {wr dg : Value} {nb : Nat} {s : HSt} {w w' : World} (h : PSt w0 w1 Fn v9 b wr nb s w) (hp : IsPaper w1.heap.size b wr dg s.out w) (hd : w.ownsRow w1.heap.size 123 2 dg s.dg.length (dgCells s.dg)) (hb : Below w1.heap.size w w') (hk : Lib.OthersKept 5 none w w') :
    w'.cell? ⟨b, 3, none⟩ = some dg ∧ WrPost w0 w1 Fn nb s dg w' := by
  obtain ⟨F', hn, hF, -⟩ := h.notes
  obtain ⟨cs, hbk⟩ := hp.block
  have hbk' := kept_none hk hbk (by decide)
  refine ⟨?_, row_none hk hd (by decide), h.below.trans (hb.mono h.le), ⟨hb.os.trans h.frame.os, hb.tape.trans h.frame.tape, hb.output.trans h.frame.output, Nat.le_trans h.frame.size hb.size, fun k hk hF => (hb.block k hk).trans (h.frame.block k hk hF)⟩, ⟨F', hn.none hk, hF⟩⟩
  have := hp.cell3
  simp only [World.cell?] at this ⊢
  rw [hbk']
  exact this

set_option maxHeartbeats 2000000 in
set_option maxRecDepth 100000 in
theorem inline_any {w0 w : World} {Fn : Nat → Prop} {wb nb : Nat} {c : Cfg} {L : List ByteArray} {C : List Int} {v : Value} {l : List Inl} (hB : Below w0.heap.size w0 w) (hW : WriterAt w Fn c wb nb) (hN : NotesAt 35 w0.heap.size Fn nb L C w) (hT : Tabs w0) (hc : c.Small)
    (hv : InlsIn w Fn v l) (hs : ∀ x ∈ l, x.Small) (hf : Fits l.length ⟨[], L, C, [], []⟩) (hl : l.length ≤ 5000) :
    Calls Tryz.prog 15 #[.pointer (some ⟨wb, 0, none⟩), v] w (InlPost w0 w Fn nb (nodesS c l ⟨[], L, C, [], []⟩)) := by
  have HW := Lib.hid hW
  have HV := Lib.hid hv
  have HF := Lib.hid hf
  have HNs := fun b w' (h : PSt w0 w Fn ⟨.slice none 0 0, fun _ => none⟩ b (.pointer (some ⟨wb, 0, none⟩)) nb ⟨[], L, C, [], []⟩ w') => nodes_any hW hT hc l.length v l _ w' rfl h hv hs hf (by simp; omega)
  have HP := Lib.hid (fun w1 hb hp => PSt.fresh (w0 := w0) (w := w) (w1 := w1) (Fn := Fn) (nb := nb) (wr := .pointer (some ⟨wb, 0, none⟩)) (L := L) (C := C) hB hN hb hp)
  have hbw := hB.size
  clear hW hN hv hf hs
  go_enter Tryz.func15, Tryz.ntmps15
  go_wp2_with fail
  refine (paper_any wb w).mono ?_
  rintro e w1 ⟨rfl, hb1, hp1⟩
  have P1 := Lib.hid (HP.out w1 hb1 hp1)
  clear hb1 hp1
  go_wp2_with fail
  refine (HNs _ _ P1.out).mono ?_
  rintro e w2 ⟨rfl, h2⟩
  have P2 := Lib.hid h2
  clear h2 HNs
  generalize nodesS c l ⟨[], L, C, [], []⟩ = s2 at *
  obtain ⟨dg2, hp2, hd2⟩ := P2.out.paper
  have hd2d : w2.drew.ownsRow w.heap.size 123 2 dg2 s2.dg.length (dgCells s2.dg) := hd2
  have P2d := Lib.hid (P2.out.on (Below.drew (Below.refl _ w2)))
  have hpd : IsPaper w.heap.size w.heap.size (.pointer (some ⟨wb, 0, none⟩)) dg2 s2.out w2.drew := hp2
  have cR := pen_read hpd P2d.out.frame.size
  have c3 : w2.drew.cell? ⟨w.heap.size, 3, none⟩ = some dg2 := hpd.cell3
  have RD := Lib.hid (fun w' => P2d.out.read (w' := w') hpd hd2d)
  clear hp2 hpd hd2 hd2d
  go_wp2_with fail
  go_region_with (go_at_call 27; refine cR.mono ?_; rintro e w3 ⟨rfl, hb3, hk3⟩; have c33 := (RD.out w3 hb3 hk3).1; have H3 := Lib.hid (RD.out w3 hb3 hk3).2; clear hb3 hk3)
  all_goals
    go_wp2_with fail
    go_ret2
    exact ⟨dg2, rfl, H3.out⟩
end Go.Proofs.YtpabackkapgkpaaGreatDoor
