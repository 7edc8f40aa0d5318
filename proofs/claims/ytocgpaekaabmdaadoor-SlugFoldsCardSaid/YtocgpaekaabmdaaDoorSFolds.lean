/- SlugFolds: the walk. -/
import Derived.Test.YtocgpaekaabmdaaDoorAlive
import Derived.Test.YtocgpaekaabmdaaDoorSlugLaws
namespace Go.Proofs.YtocgpaekaabmdaaDoor
open Go.RowKit Go.Lib

set_option maxRecDepth 100000 in
set_option maxHeartbeats 1000000 in
theorem slugFolds_walk (s : ByteArray) (w : World) (hT : Tabs w) (hs : s.size ≤ 9223372036854775807) :
    Calls Tryd.prog 5 #[.string s] w fun e w' => e = .returned (.bool true) ∧ Below w.heap.size w w' := by
  have ha := fun w => @alive_any w
  have HT := Lib.hid hT
  clear hT
  by_cases h : s.size ≤ 100
  · obtain ⟨X, hX⟩ : ∃ X : ByteArray, (⟨(slugL s.data.toList).toArray⟩ : ByteArray) = X := ⟨_, rfl⟩
    have hXl : slugL s.data.toList = X.data.toList := by rw [← hX]
    obtain ⟨k1, k2⟩ := slugL_ok s.data.toList
    have hX1 : X.size ≤ 40 := by rw [ba_size, ← hXl]; exact k2
    have hX0 : 1 ≤ X.size := by
      rw [ba_size, ← hXl]
      rcases Nat.eq_zero_or_pos (slugL s.data.toList).length with h9 | h9
      · exact absurd (List.eq_nil_of_length_eq_zero h9) (dashOk_ne k1)
      · exact h9
    have hsl : s.data.toList.length ≤ 100 := by rw [← ba_size]; exact h
    have c1 : ∀ w, Tabs w → Calls Tryd.prog 10 #[.string s] w fun e w' => e = .returned (.string X) ∧ Below w.heap.size w w' := fun w hT => by
      have := of_list (w := w) s _ _ rfl rfl (by omega) hT
      rw [hX] at this; exact this
    have c2 : ∀ w, Tabs w → Calls Tryd.prog 10 #[.string (⟨#[32]⟩ ++ s ++ ⟨#[9]⟩)] w fun e w' => e = .returned (.string X) ∧ Below w.heap.size w w' := fun w hT => by
      have := of_list (w := w) (⟨#[32]⟩ ++ s ++ ⟨#[9]⟩) _ _ (by simp) (slugL_blanks s.data.toList) (by simp only [List.length_cons, List.length_append, List.length_nil]; omega) hT
      rw [hX] at this; exact this
    have c3 : ∀ w, Tabs w → Calls Tryd.prog 10 #[.string X] w fun e w' => e = .returned (.string X) ∧ Below w.heap.size w w' := fun w hT => by
      have := of_list (w := w) X _ _ rfl (slugL_anchor (by rw [← hXl]; exact k1) (by rw [← hXl]; exact k2)) (by rw [← ba_size]; omega) hT
      exact this
    clear k1 k2 hXl hX hsl
    go_enter Tryd.func5, Tryd.ntmps5
    go_wp2_with fail
    refine (ha _ HT.out).mono ?_
    rintro e w1 ⟨rfl, hb1⟩
    have HT1 := Lib.hid (HT.out.on hb1)
    have HB1 := Lib.hid hb1
    clear hb1
    go_wp2_with fail
    refine (c1 _ HT1.out).mono ?_
    rintro e w2 ⟨rfl, hb2⟩
    have HT2 := Lib.hid (HT1.out.on hb2)
    have HB2 := Lib.hid (HB1.out.trans (hb2.mono HB1.out.size))
    clear hb2
    go_wp2_with fail
    refine (c2 _ HT2.out).mono ?_
    rintro e w3 ⟨rfl, hb3⟩
    have HT3 := Lib.hid (HT2.out.on hb3)
    have HB3 := Lib.hid (HB2.out.trans (hb3.mono HB2.out.size))
    clear hb3
    go_wp2_with fail
    refine (c3 _ HT3.out).mono ?_
    rintro e w4 ⟨rfl, hb4⟩
    have HB4 := Lib.hid (HB3.out.trans (hb4.mono HB3.out.size))
    clear hb4
    have f1 : decide ((1 : Int) ≤ X.size) = true := by simp only [decide_eq_true_eq]; omega
    have f2 : decide ((X.size : Int) ≤ 40) = true := by simp only [decide_eq_true_eq]; omega
    go_wp2_with fail
    go_ret
    exact ⟨rfl, HB4.out⟩
  · have h9 : decide ((100 : Int) < s.size) = true := by simp only [decide_eq_true_eq]; omega
    go_enter Tryd.func5, Tryd.ntmps5
    go_wp2_with fail
    refine (ha _ HT.out).mono ?_
    rintro e w1 ⟨rfl, hb1⟩
    go_wp2_with fail
    go_ret
    exact ⟨rfl, hb1⟩
end Go.Proofs.YtocgpaekaabmdaaDoor
