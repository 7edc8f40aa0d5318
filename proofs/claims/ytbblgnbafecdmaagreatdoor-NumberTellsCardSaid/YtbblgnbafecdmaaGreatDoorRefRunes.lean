/- The references of Space, Ascii and Punct: the walks. -/
import Derived.Test.YtbblgnbafecdmaaGreatDoorFold
namespace Go.Proofs.YtbblgnbafecdmaaGreatDoor
open Go.RowKit Go.Lib

theorem spaceI_iff (r : Int) : spaceI r = true ↔ (r = 9 ∨ r = 10 ∨ r = 12 ∨ r = 13 ∨ r = 32 ∨ r = 160 ∨ r = 5760 ∨ (8192 ≤ r ∧ r ≤ 8202) ∨ r = 8239 ∨ r = 8287 ∨ r = 12288) := by
  unfold spaceI amongB spaceSpans
  simp only [List.any_cons, List.any_nil, Bool.or_eq_true, Bool.and_eq_true, decide_eq_true_eq, Bool.or_false]
  omega
theorem ret_bool_iff {a b : Bool} (h : a = true ↔ b = true) : Ending.returned (.bool a) = .returned (.bool b) := by rw [Bool.eq_iff_iff.2 h]

set_option maxHeartbeats 1000000 in
theorem space_ref_any (r : Int) (w : World) :
    Calls Tryz.prog 96 #[.int .i32 r] w fun e w' => e = .returned (.bool (spaceI r)) ∧ w' = w := by
  have HS := Lib.hid (spaceI_iff r)
  go_enter Tryz.func96, Tryz.ntmps96
  go_wp2_with fail
  all_goals go_ret
  all_goals refine ⟨ret_bool_iff ?_, rfl⟩
  all_goals rw [HS.out]
  all_goals simp_all
  all_goals omega
end Go.Proofs.YtbblgnbafecdmaaGreatDoor
