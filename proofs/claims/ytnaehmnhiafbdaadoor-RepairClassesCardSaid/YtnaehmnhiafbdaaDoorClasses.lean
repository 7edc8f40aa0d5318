/- RepairClasses: the plain law and the walk. -/
import Derived.Test.YtnaehmnhiafbdaaDoorLaws
namespace Go.Proofs.YtnaehmnhiafbdaaDoor
open Go.RowKit Go.Lib

theorem punct_iff (r : Int) : punctI r = true ↔ ((0 ≤ r ∧ r < 128 ∧ ((33 ≤ r ∧ r ≤ 47) ∨ (58 ≤ r ∧ r ≤ 64) ∨ (91 ≤ r ∧ r ≤ 96) ∨ (123 ≤ r ∧ r ≤ 126))) ∨ (¬ (0 ≤ r ∧ r < 128) ∧ (r = 161 ∨ r = 167 ∨ r = 171 ∨ r = 182 ∨ r = 183 ∨ r = 187 ∨ r = 191 ∨ (8208 ≤ r ∧ r ≤ 8231) ∨ (8240 ≤ r ∧ r ≤ 8259) ∨ r = 8364 ∨ (12289 ≤ r ∧ r ≤ 12305)))) := by
  by_cases h : 0 ≤ r ∧ r < 128
  · rw [punctI_ascii r h.1 h.2, asciiI_iff]; omega
  · rw [punctI_iff r h]; omega
theorem classes_apart (r : Int) (h : spaceI r = true) : punctI r = false := by
  cases hp : punctI r with
  | false => rfl
  | true => have h1 := (spaceI_iff r).1 h; have h2 := (punct_iff r).1 hp; omega
def plainI (r : Int) : Bool := (decide (97 ≤ r) && decide (r ≤ 122)) || (decide (65 ≤ r) && decide (r ≤ 90)) || (decide (48 ≤ r) && decide (r ≤ 57))
theorem plain_not (r : Int) (h : (97 ≤ r ∧ r ≤ 122) ∨ (65 ≤ r ∧ r ≤ 90) ∨ (48 ≤ r ∧ r ≤ 57)) : spaceI r = false ∧ punctI r = false := by
  constructor
  · cases hp : spaceI r with
    | false => rfl
    | true => have h2 := (spaceI_iff r).1 hp; omega
  · cases hp : punctI r with
    | false => rfl
    | true => have h2 := (punct_iff r).1 hp; omega

theorem plain_cases (r : Int) : ((97 ≤ r ∧ r ≤ 122) ∨ (65 ≤ r ∧ r ≤ 90) ∨ (48 ≤ r ∧ r ≤ 57)) ∨ ¬ ((97 ≤ r ∧ r ≤ 122) ∨ (65 ≤ r ∧ r ≤ 90) ∨ (48 ≤ r ∧ r ≤ 57)) := Classical.em _

set_option maxHeartbeats 2000000 in
theorem repairClasses_walk (r : Int) (W : World) (hT : Tabs W) (_hr : -2147483648 ≤ r ∧ r ≤ 2147483647) :
    Calls Tryd.prog 7 #[.int .i32 r] W fun e w' => e = .returned (.bool true) ∧ Below W.heap.size W w' := by
  have h0 := Below.refl W.heap.size W
  have HP := Lib.hid (plain_not r)
  have HA := Lib.hid (classes_apart r)
  obtain ⟨v1, hv1⟩ : ∃ v, spaceI r = v := ⟨_, rfl⟩
  obtain ⟨v2, hv2⟩ : ∃ v, punctI r = v := ⟨_, rfl⟩
  have c3 : ∀ {w : World}, Below W.heap.size W w → Calls Tryd.prog 12 #[.int .i32 r] w fun e w' => e = .returned (.bool v1) ∧ Below W.heap.size W w' := fun h => Space_as hv1 h
  have c5 : ∀ {w : World}, Below W.heap.size W w → Calls Tryd.prog 14 #[.int .i32 r] w fun e w' => e = .returned (.bool v2) ∧ Below W.heap.size W w' := fun h => Punct_as hv2 h
  have HP2 : Hid ((97 ≤ r ∧ r ≤ 122) ∨ (65 ≤ r ∧ r ≤ 90) ∨ (48 ≤ r ∧ r ≤ 57) → v1 = false ∧ v2 = false) := by
    intro h; have := HP.out h; rw [hv1, hv2] at this; exact this
  have HA2 : Hid (v1 = true → v2 = false) := by
    intro h; rw [← hv2]; exact HA.out (by rw [hv1]; exact h)
  clear hv1 hv2 HP HA
  cases v1 <;> cases v2
  case true.true => have := HA2.out rfl; cases this
  all_goals
    go_enter Tryd.func7, Tryd.ntmps7
    go_wp2_with (first | (go_at_call 9; refine (alive_from (by assumption) hT).mono ?_; rintro e w1 ⟨rfl, hb1⟩) | (go_at_call 12; refine (c3 (by assumption)).mono ?_; rintro e w1 ⟨rfl, hb1⟩) | (go_at_call 14; refine (c5 (by assumption)).mono ?_; rintro e w1 ⟨rfl, hb1⟩))
    all_goals go_ret
    all_goals first | exact ⟨rfl, by assumption⟩ | (exfalso; have h9 := HP2.out (by omega); simp at h9)
end Go.Proofs.YtnaehmnhiafbdaaDoor
