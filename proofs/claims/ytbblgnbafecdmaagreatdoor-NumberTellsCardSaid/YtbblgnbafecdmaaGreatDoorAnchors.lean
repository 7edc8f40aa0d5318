/- The anchors behind a pointer. No walk in this text. -/
import Derived.Test.YtbblgnbafecdmaaGreatDoorSet
import Derived.Test.YtbblgnbafecdmaaGreatDoorItoa
import Derived.OwnWalk
import Derived.WalkSpells
import Derived.WalkLawsBesides
namespace Go.Proofs.YtbblgnbafecdmaaGreatDoor
open Go.RowKit Go.Lib Go.Maps

/-- anchors behind a pointer to block b: those that were told; F: its blocks -/
structure AncAt (base : Nat) (F : Nat → Prop) (b : Nat) (had : List (List UInt8)) (w : World) : Prop where
  ge : base ≤ b
  form : (w.heap[b]? = some (.cells #[.map none] 58 (0, 0)) ∧ had = [] ∧ ∀ k, F k ↔ k = b) ∨
    ∃ m n, w.heap[b]? = some (.cells #[.map (some m)] 58 (0, 0)) ∧ base ≤ m ∧ n ≤ had.length ∧ SetAt m n had w ∧ ∀ k, F k ↔ (k = b ∨ k = m)

theorem AncAt.blk {base : Nat} {F : Nat → Prop} {b : Nat} {had : List (List UInt8)} {w : World} (h : AncAt base F b had w) : F b ∧ b < w.heap.size := by
  rcases h.form with ⟨h1, -, h3⟩ | ⟨m, n, h1, -, -, -, h3⟩
  · exact ⟨(h3 b).2 rfl, (Array.getElem?_eq_some_iff.1 h1).1⟩
  · exact ⟨(h3 b).2 (.inl rfl), (Array.getElem?_eq_some_iff.1 h1).1⟩
theorem AncAt.lt {base : Nat} {F : Nat → Prop} {b : Nat} {had : List (List UInt8)} {w : World} (h : AncAt base F b had w) : ∀ k, F k → base ≤ k ∧ k < w.heap.size := by
  intro k hk
  have hg := h.ge
  have hb := h.blk.2
  rcases h.form with ⟨h1, -, h3⟩ | ⟨m, n, h1, h2, -, h4, h3⟩
  · rw [(h3 k).1 hk]; exact ⟨hg, hb⟩
  · rcases (h3 k).1 hk with rfl | rfl
    · exact ⟨hg, hb⟩
    · exact ⟨h2, h4.lt⟩
theorem AncAt.frame {base : Nat} {F G : Nat → Prop} {b : Nat} {had : List (List UInt8)} {w w' : World} (h : AncAt base F b had w) (hf : Frame G w w') (hd : ∀ k, F k → ¬ G k) : AncAt base F b had w' := by
  refine ⟨h.ge, ?_⟩
  rcases h.form with ⟨h1, h2, h3⟩ | ⟨m, n, h1, h2, h5, h4, h3⟩
  · exact .inl ⟨hf.at h1 (hd b ((h3 b).2 rfl)), h2, h3⟩
  · exact .inr ⟨m, n, hf.at h1 (hd b ((h3 b).2 (.inl rfl))), h2, h5, h4.kept (hf.block m h4.lt (hd m ((h3 m).2 (.inr rfl)))), h3⟩
theorem AncAt.below {base : Nat} {F : Nat → Prop} {b : Nat} {had : List (List UInt8)} {w w' : World} (h : AncAt base F b had w) (hb : Below w.heap.size w w') : AncAt base F b had w' :=
  h.frame (Frame.of_below (F := fun _ => False) hb) (fun _ _ h => h)
theorem AncAt.fresh (base : Nat) (w : World) (hb : base ≤ w.heap.size) : AncAt base (· = w.heap.size) w.heap.size [] (w.alloc (.cells #[.map none] 58)) :=
  ⟨hb, .inl ⟨heap_alloc_new w _, rfl, fun _ => Iff.rfl⟩⟩

theorem cell_one {w : World} {b : Nat} {v : Value} {T : TypeId} (h : w.heap[b]? = some (.cells #[v] T (0, 0))) : w.cell? ⟨b, 0, none⟩ = some v ∧ w.frozen? ⟨b, 0, none⟩ = false :=
  ⟨by have := cell_of_row w b 0 _ _ _ h; simpa using this, frozen_of_row w b 0 _ _ h⟩

end Go.Proofs.YtbblgnbafecdmaaGreatDoor
