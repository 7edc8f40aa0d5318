/- EntityPlain and EntityNames: the walks. -/
import Derived.Test.YtnehpclbflnpaaaDoorAlive
import Derived.Test.YtnehpclbflnpaaaDoorEntLaws
namespace Go.Proofs.YtnehpclbflnpaaaDoor
open Go.RowKit Go.Lib

theorem at_list {w : World} (s : ByteArray) (l : List UInt8) (r : List UInt8 × Nat) (hl : s.data.toList = l) (hr : atR l = r) (hs : l.length < 4294967281) (hT : Tabs w) :
    Calls Tryd.prog 9 #[.string s] w fun e w' => e = .returned (.tuple #[.string ⟨r.1.toArray⟩, .int .i64 r.2]) ∧ Below w.heap.size w w' := by
  have := at_any s (by rw [ba_size, hl]; exact hs) hT
  rw [hl, hr] at this
  exact this

set_option maxRecDepth 100000 in
set_option maxHeartbeats 1000000 in
theorem entityPlain_walk (s : ByteArray) (w : World) (hT : Tabs w) (hs : s.size ≤ 9223372036854775807) :
    Calls Tryd.prog 5 #[.string s] w fun e w' => e = .returned (.bool true) ∧ Below w.heap.size w w' := by
  have ha := fun w => @alive_any w
  by_cases h : s.size ≤ 100
  · have hsl : s.data.toList.length ≤ 100 := by rw [← ba_size]; exact h
    have h1 : ∀ w, Tabs w → Calls Tryd.prog 9 #[.string (⟨#[120]⟩ ++ s)] w fun e w' => e = .returned (.tuple #[.string ⟨#[]⟩, .int .i64 0]) ∧ Below w.heap.size w w' := fun w hT =>
      at_list _ _ _ (by simp) (at_x s.data.toList) (by simp only [List.length_cons]; omega) hT
    obtain ⟨X2, hX2⟩ : ∃ X, atR (38 :: 32 :: s.data.toList) = X := ⟨_, rfl⟩
    have hz2 := at_blank s.data.toList
    rw [hX2] at hz2
    have h2 : ∀ w, Tabs w → Calls Tryd.prog 9 #[.string (⟨#[38, 32]⟩ ++ s)] w fun e w' => e = .returned (.tuple #[.string ⟨X2.1.toArray⟩, .int .i64 0]) ∧ Below w.heap.size w w' := fun w hT => by
      have := at_list (w := w) (⟨#[38, 32]⟩ ++ s) _ _ (by simp) hX2 (by simp only [List.length_cons]; omega) hT
      rw [hz2] at this
      exact this
    have h3 : ∀ w, Tabs w → Calls Tryd.prog 9 #[.string (⟨#[38, 97, 109, 112, 59]⟩ ++ s)] w fun e w' => e = .returned (.tuple #[.string ⟨#[38]⟩, .int .i64 5]) ∧ Below w.heap.size w w' := fun w hT =>
      at_list _ _ _ (by simp) (at_amp s.data.toList) (by simp only [List.length_cons]; omega) hT
    clear hsl
    have HT := Lib.hid hT
    have hX2 := Lib.hid hX2
    have hz2 := Lib.hid hz2
    clear hT
    go_enter Tryd.func5, Tryd.ntmps5
    go_wp2_with fail
    refine (ha _ HT.out).mono ?_
    rintro e w1 ⟨rfl, hb1⟩
    have HB1 := Lib.hid hb1
    have HT1 := Lib.hid (HT.out.on hb1)
    clear hb1
    go_wp2_with fail
    refine (h1 _ HT1.out).mono ?_
    rintro e w2 ⟨rfl, hb2⟩
    have HT2 := Lib.hid (HT1.out.on hb2)
    have HB2 := Lib.hid (HB1.out.trans (hb2.mono HB1.out.size))
    clear hb2
    go_wp2_with fail
    refine (h2 _ HT2.out).mono ?_
    rintro e w3 ⟨rfl, hb3⟩
    have HT3 := Lib.hid (HT2.out.on hb3)
    have HB3 := Lib.hid (HB2.out.trans (hb3.mono HB2.out.size))
    clear hb3
    go_wp2_with fail
    refine (h3 _ HT3.out).mono ?_
    rintro e w4 ⟨rfl, hb4⟩
    have HB4 := Lib.hid (HB3.out.trans (hb4.mono HB3.out.size))
    clear hb4
    go_wp2_with fail
    go_ret
    exact ⟨rfl, HB4.out⟩
  · have h9 : decide ((100 : Int) < s.size) = true := by simp only [decide_eq_true_eq]; omega
    have HT := Lib.hid hT
    clear hT
    go_enter Tryd.func5, Tryd.ntmps5
    go_wp2_with fail
    refine (ha _ HT.out).mono ?_
    rintro e w1 ⟨rfl, hb1⟩
    go_wp2_with fail
    go_ret
    exact ⟨rfl, hb1⟩
end Go.Proofs.YtnehpclbflnpaaaDoor
