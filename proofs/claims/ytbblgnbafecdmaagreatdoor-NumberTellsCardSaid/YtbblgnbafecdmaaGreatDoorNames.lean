/- Names in a slice; the place of a name. No walk in this text. -/
import Derived.Test.YtbblgnbafecdmaaGreatDoorBuild
import Derived.WalkLawsBesides
import Derived.WalkSpells
import Derived.Test.YtbblgnbafecdmaaGreatDoorFrame
namespace Go.Proofs.YtbblgnbafecdmaaGreatDoor
open Go.RowKit Go.Lib

/-- are two names one? -/
def eqB (a b : ByteArray) : Bool := a.toList == b.toList
theorem eqB_iff {a b : ByteArray} : eqB a b = true ↔ a = b := by
  unfold eqB
  rw [beq_iff_eq, Lib.toList_data, Lib.toList_data]
  exact ⟨ba_eq, fun h => by rw [h]⟩
theorem eqB_false {a b : ByteArray} : eqB a b = false ↔ a ≠ b := by
  rw [← Bool.not_eq_true, ne_eq, not_congr]; exact eqB_iff

/-- the place of a name; -1 -/
def idxName (nm : ByteArray) : List ByteArray → Nat → Int
  | [], _ => -1
  | x :: l, k => if eqB x nm = true then k else idxName nm l (k + 1)

theorem idx_none {nm : ByteArray} {l : List ByteArray} (h : nm ∉ l) (k : Nat) : idxName nm l k = -1 := by
  induction l generalizing k with
  | nil => rfl
  | cons x l ih =>
    simp only [List.mem_cons, not_or] at h
    unfold idxName
    rw [if_neg (by rw [eqB_iff]; exact fun e => h.1 e.symm)]
    exact ih h.2 _
theorem idx_some {nm : ByteArray} {l : List ByteArray} (h : nm ∈ l) (k : Nat) : ∃ i, i < l.length ∧ idxName nm l k = ((k + i : Nat) : Int) ∧ l[i]? = some nm ∧ ∀ j, j < i → l[j]? ≠ some nm := by
  induction l generalizing k with
  | nil => cases h
  | cons x l ih =>
    unfold idxName
    by_cases hx : eqB x nm = true
    · have hx' := eqB_iff.1 hx
      exact ⟨0, by simp, by rw [if_pos hx]; simp, by simp [hx'], fun j hj => by omega⟩
    · have hne : x ≠ nm := fun e => hx (eqB_iff.2 e)
      have hm : nm ∈ l := by
        rcases List.mem_cons.1 h with e | h
        · exact absurd e.symm hne
        · exact h
      obtain ⟨i, h1, h2, h3, h4⟩ := ih hm (k + 1)
      refine ⟨i + 1, by simpa using h1, by rw [if_neg hx, h2]; congr 1; omega, by simpa using h3, fun j hj => ?_⟩
      cases j with
      | zero => simpa using hne
      | succ j => simpa using h4 j (by omega)

/-- names lie in a slice -/
def NamesIn (w : World) (v : Value) (l : List ByteArray) : Prop :=
  (l = [] ∧ ∃ a cap, v = .slice a 0 cap) ∨ ∃ b o cap, v = .slice (some ⟨b, o, none⟩) l.length cap ∧ b < w.heap.size ∧ ∀ i (h : i < l.length), w.cell? ⟨b, o + i, none⟩ = some (.string l[i])
theorem NamesIn.below {w w' : World} {v : Value} {l : List ByteArray} (h : NamesIn w v l) (hb : Below w.heap.size w w') : NamesIn w' v l := by
  rcases h with h | ⟨b, o, cap, hv, hlt, hc⟩
  · exact .inl h
  · exact .inr ⟨b, o, cap, hv, Nat.lt_of_lt_of_le hlt hb.size, fun i hi => (hb.cell (p := ⟨b, o + i, none⟩) hlt).trans (hc i hi)⟩

theorem namesIn_row {w : World} {base : Nat} {v : Value} {L : List ByteArray} (h : w.ownsRow base 9 1 v L.length (L.map .string)) : NamesIn w v L := by
  by_cases hL : L = []
  · subst hL
    rcases h.2 with ⟨rfl, _⟩ | ⟨g, cap, cur, rfl, _⟩
    · exact .inl ⟨rfl, _, _, rfl⟩
    · exact .inl ⟨rfl, _, _, rfl⟩
  · have hn : 0 < (L.map Value.string).length := by rw [List.length_map]; exact List.length_pos_iff.2 hL
    obtain ⟨g, cap, rfl, _⟩ := row_some h hn
    refine .inr ⟨g, 0, cap, rfl, (h.lt g rfl).2, fun i hi => ?_⟩
    rw [h.cellAt (0 + i) (by omega), Nat.zero_add]
    simp [hi]

end Go.Proofs.YtbblgnbafecdmaaGreatDoor
