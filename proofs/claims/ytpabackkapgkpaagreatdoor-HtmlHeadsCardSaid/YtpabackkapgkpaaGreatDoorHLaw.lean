/- What the laws' walks share: a new writer's first call, and its next one. -/
import Derived.Test.YtpabackkapgkpaaGreatDoorHAlive
namespace Go.Proofs.YtpabackkapgkpaaGreatDoor
open Go.RowKit Go.Lib

/-- the world in which a new writer, its notes, and nodes have been laid -/
theorem first_inline {w0 w : World} (hB : Below w0.heap.size w0 w) (hT : Tabs w0) (n co no ra : Bool) (de : Int) {secs : List Sec} {vS : Value} (hS : SecsIn w w.heap.size vS secs) (hc : Cfg.Small ⟨n, co, no, ra, de, secs⟩) (l : List Inl) {cs : Array Value} (hcs : cs = (l.flatMap Inl.cells).toArray) (hl : l.length ≤ 5000) (hs : ∀ x ∈ l, x.Small) {X : ByteArray} {s : HSt}
    (hS' : nodesS ⟨n, co, no, ra, de, secs⟩ l ⟨[], [], [], [], []⟩ = s) (hX : X.data.toList = s.out) :
    Calls Tryz.prog 15 #[.pointer (some ⟨w.heap.size + 1, 0, none⟩), .slice (some ⟨w.heap.size + 2, 0, none⟩) l.length l.length]
      (((w.alloc (.cells #[.slice none 0 0, .slice none 0 0] 35)).alloc (.cells #[.bool n, .bool co, .bool no, .bool ra, .int .i64 de, vS, .pointer (some ⟨w.heap.size, 0, none⟩)] 37)).alloc (.cells cs 45))
      fun e w' => ∃ a cap F', e = .returned (.tuple #[.string X, .slice a s.dg.length cap]) ∧ Pen w0 ⟨n, co, no, ra, de, secs⟩ (w.heap.size + 1) w.heap.size s.L s.C F' w' ∧ w.heap.size + 3 ≤ w'.heap.size := by
  have P0 := Pen.fresh hB n co no ra de secs vS hS
  obtain ⟨wa, hwa⟩ : ∃ wa, wa = (w.alloc (.cells #[.slice none 0 0, .slice none 0 0] 35)).alloc (.cells #[.bool n, .bool co, .bool no, .bool ra, .int .i64 de, vS, .pointer (some ⟨w.heap.size, 0, none⟩)] 37) := ⟨_, rfl⟩
  have hz : wa.heap.size = w.heap.size + 2 := by rw [hwa]; simp
  rw [← hwa] at P0 ⊢
  have b1 := (Below.refl _ wa).alloc (Nat.le_refl _) (.cells cs 45)
  have V1 := inls_lit (Fn := (· = w.heap.size)) hz l hcs (by omega) (by show ¬ w.heap.size + 2 = w.heap.size; omega)
  refine (inline_pen (P0.on b1) hT hc V1 hs (fits_nil (by omega)) hl hS' hX).mono ?_
  rintro e w' ⟨a, cap, F', he, hP, hf, -⟩
  have := hf.size
  simp at this
  exact ⟨a, cap, F', he, hP, by omega⟩
theorem next_inline {w0 w : World} {c : Cfg} {wb nb : Nat} {L : List ByteArray} {C : List Int} {Fn : Nat → Prop} (hP : Pen w0 c wb nb L C Fn w) (hT : Tabs w0) (hc : c.Small) (l : List Inl) {cs : Array Value} (hcs : cs = (l.flatMap Inl.cells).toArray) (hl : l.length ≤ 5000) (hs : ∀ x ∈ l, x.Small) (hf : Fits l.length ⟨[], L, C, [], []⟩) {X : ByteArray} {s : HSt}
    (hS' : nodesS c l ⟨[], L, C, [], []⟩ = s) (hX : X.data.toList = s.out) :
    Calls Tryz.prog 15 #[.pointer (some ⟨wb, 0, none⟩), .slice (some ⟨w.heap.size, 0, none⟩) l.length l.length] (w.alloc (.cells cs 45))
      fun e w' => ∃ a cap F', e = .returned (.tuple #[.string X, .slice a s.dg.length cap]) ∧ Pen w0 c wb nb s.L s.C F' w' := by
  have b1 := (Below.refl _ w).alloc (Nat.le_refl _) (.cells cs 45)
  have V1 := inls_lit (w := w) (Fn := Fn) rfl l hcs (by omega) (fun h => by have := (hP.notes.lt _ h).2; omega)
  refine (inline_pen (hP.on b1) hT hc V1 hs hf hl hS' hX).mono ?_
  rintro e w' ⟨a, cap, F', he, hP, -, -⟩
  exact ⟨a, cap, F', he, hP⟩
theorem small_node {k d : Int} {t u i : ByteArray} (h1 : t.size ≤ 100000) (h2 : u.size ≤ 100000) (h3 : i.size ≤ 100000) : Inl.Small ⟨k, d, t, u, i⟩ := ⟨h1, h2, h3⟩
theorem ex_escE (s : ByteArray) : ∃ E : ByteArray, E.data.toList = escL s.data.toList := ⟨_, ba_mk _⟩
theorem esc_size {s E : ByteArray} (h : E.data.toList = escL s.data.toList) : E.size ≤ 6 * s.size := by rw [ba_size, h, ba_size]; exact escL_length _
end Go.Proofs.YtpabackkapgkpaaGreatDoor
