/- The references of Space, Ascii and Punct: the walks. -/
import Derived.Test.YtnaehmnhiafbdaaDoorFold
namespace Go.Proofs.YtnaehmnhiafbdaaDoor
open Go.RowKit Go.Lib

theorem spaceI_iff (r : Int) : spaceI r = true ↔ (r = 9 ∨ r = 10 ∨ r = 12 ∨ r = 13 ∨ r = 32 ∨ r = 160 ∨ r = 5760 ∨ (8192 ≤ r ∧ r ≤ 8202) ∨ r = 8239 ∨ r = 8287 ∨ r = 12288) := by
  unfold spaceI amongB spaceSpans
  simp only [List.any_cons, List.any_nil, Bool.or_eq_true, Bool.and_eq_true, decide_eq_true_eq, Bool.or_false]
  omega
theorem ret_bool_iff {a b : Bool} (h : a = true ↔ b = true) : Ending.returned (.bool a) = .returned (.bool b) := by rw [Bool.eq_iff_iff.2 h]

set_option maxHeartbeats 1000000 in
theorem space_ref_any (r : Int) (w : World) :
    Calls Tryd.prog 13 #[.int .i32 r] w fun e w' => e = .returned (.bool (spaceI r)) ∧ w' = w := by
  have HS := Lib.hid (spaceI_iff r)
  go_enter Tryd.func13, Tryd.ntmps13
  go_wp2_with fail
  all_goals go_ret
  all_goals refine ⟨ret_bool_iff ?_, rfl⟩
  all_goals rw [HS.out]
  all_goals simp_all
  all_goals omega

theorem asciiI_iff (r : Int) : amongB r asciiSpans = true ↔ ((33 ≤ r ∧ r ≤ 47) ∨ (58 ≤ r ∧ r ≤ 64) ∨ (91 ≤ r ∧ r ≤ 96) ∨ (123 ≤ r ∧ r ≤ 126)) := by
  unfold amongB asciiSpans
  simp only [List.any_cons, List.any_nil, Bool.or_eq_true, Bool.and_eq_true, decide_eq_true_eq, Bool.or_false]
set_option maxHeartbeats 1000000 in
theorem ascii_ref_any (r : Int) (w : World) :
    Calls Tryd.prog 17 #[.int .u8 r] w fun e w' => e = .returned (.bool (amongB r asciiSpans)) ∧ w' = w := by
  have HS := Lib.hid (asciiI_iff r)
  go_enter Tryd.func17, Tryd.ntmps17
  go_wp2_with fail
  all_goals go_ret
  all_goals refine ⟨ret_bool_iff ?_, rfl⟩
  all_goals rw [HS.out]
  all_goals simp_all
  all_goals omega

theorem punctI_iff (r : Int) (h : ¬ (0 ≤ r ∧ r < 128)) : punctI r = true ↔ (r = 161 ∨ r = 167 ∨ r = 171 ∨ r = 182 ∨ r = 183 ∨ r = 187 ∨ r = 191 ∨ (8208 ≤ r ∧ r ≤ 8231) ∨ (8240 ≤ r ∧ r ≤ 8259) ∨ r = 8364 ∨ (12289 ≤ r ∧ r ≤ 12305)) := by
  unfold punctI
  rw [if_neg h]
  unfold amongB punctSpans punctList
  simp only [List.any_cons, List.any_nil, Bool.or_eq_true, Bool.and_eq_true, decide_eq_true_eq, Bool.or_false, beq_iff_eq]
  omega
theorem punctI_ascii (r : Int) (h : 0 ≤ r) (h1 : r < 128) : punctI r = amongB r asciiSpans := by
  unfold punctI
  rw [if_pos ⟨h, h1⟩]
set_option maxHeartbeats 4000000 in
theorem punct_ref_any (r : Int) (w : World) :
    Calls Tryd.prog 15 #[.int .i32 r] w fun e w' => e = .returned (.bool (punctI r)) ∧ w' = w := by
  by_cases h0 : 0 ≤ r
  · by_cases h1 : r < 128
    · have HS := Lib.hid (punctI_ascii r h0 h1)
      go_enter Tryd.func15, Tryd.ntmps15
      go_wp2_with fail
      refine (ascii_ref_any r _).mono ?_
      rintro e w1 ⟨rfl, rfl⟩
      go_wp2_with fail
      go_ret
      exact ⟨ret_bool HS.out.symm, rfl⟩
    · have HS := Lib.hid (punctI_iff r (by omega))
      have h1' : 128 ≤ r := by omega
      clear h1
      go_enter Tryd.func15, Tryd.ntmps15
      go_wp2_with fail
      all_goals go_ret
      all_goals refine ⟨ret_bool_iff ?_, rfl⟩
      all_goals rw [HS.out]
      all_goals simp_all
      all_goals omega
  · have HS := Lib.hid (punctI_iff r (by omega))
    have h0' : r < 0 := by omega
    clear h0
    go_enter Tryd.func15, Tryd.ntmps15
    go_wp2_with fail
    all_goals go_ret
    all_goals refine ⟨ret_bool_iff ?_, rfl⟩
    all_goals rw [HS.out]
    all_goals simp_all
    all_goals omega
end Go.Proofs.YtnaehmnhiafbdaaDoor
