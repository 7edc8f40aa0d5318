/- The references of Space, Ascii and Punct: the walks. -/
import Derived.Test.YtbblgnbafecdmaaDoorFold
namespace Go.Proofs.YtbblgnbafecdmaaDoor
open Go.RowKit Go.Lib

theorem spaceI_iff (r : Int) : spaceI r = true ↔ (r = 9 ∨ r = 10 ∨ r = 12 ∨ r = 13 ∨ r = 32 ∨ r = 160 ∨ r = 5760 ∨ (8192 ≤ r ∧ r ≤ 8202) ∨ r = 8239 ∨ r = 8287 ∨ r = 12288) := by
  unfold spaceI amongB spaceSpans
  simp only [List.any_cons, List.any_nil, Bool.or_eq_true, Bool.and_eq_true, decide_eq_true_eq, Bool.or_false]
  omega
theorem ret_bool_iff {a b : Bool} (h : a = true ↔ b = true) : Ending.returned (.bool a) = .returned (.bool b) := by rw [Bool.eq_iff_iff.2 h]

end Go.Proofs.YtbblgnbafecdmaaDoor
