/- flank.Left, Right, Opens, Closes: the walks. -/
import Derived.Test.YtdpcpliplbbfmaaDoorRep
namespace Go.Proofs.YtdpcpliplbbfmaaDoor
open Go.RowKit

theorem space_from {w0 w : World} (r : Int) (h : Below w0.heap.size w0 w) : Calls Tryd.prog 14 #[.int .i32 r] w fun e w' => e = .returned (.bool (amongB r spaceSpans)) ∧ Below w0.heap.size w0 w' :=
  (space_any r w).mono fun _ _ ⟨he, hb⟩ => ⟨he, h.trans (hb.mono h.size)⟩
theorem punct_from {w0 w : World} (r : Int) (h : Below w0.heap.size w0 w) : Calls Tryd.prog 13 #[.int .i32 r] w fun e w' => e = .returned (.bool (punctI r)) ∧ Below w0.heap.size w0 w' :=
  (punct_any r w).mono fun _ _ ⟨he, hb⟩ => ⟨he, h.trans (hb.mono h.size)⟩

def leftI (b a : Int) : Bool := !amongB a spaceSpans && (!punctI a || amongB b spaceSpans || punctI b)

set_option maxHeartbeats 400000 in
theorem left_any (b a : Int) (w : World) :
    Calls Tryd.prog 10 #[.int .i32 b, .int .i32 a] w fun e w' => e = .returned (.bool (leftI b a)) ∧ Below w.heap.size w w' := by
  have hB := Below.refl w.heap.size w
  go_enter Tryd.func10, Tryd.ntmps10
  go_wp2_with (first
    | (go_at_call 14; refine (space_from (w0 := w) _ (by assumption)).mono ?_; rintro e w1 ⟨rfl, hb1⟩)
    | (go_at_call 13; refine (punct_from (w0 := w) _ (by assumption)).mono ?_; rintro e w1 ⟨rfl, hb1⟩))
  all_goals go_ret
  all_goals exact ⟨ret_bool (by simp [leftI, *]), by assumption⟩

theorem left_from {w0 w : World} (b a : Int) (h : Below w0.heap.size w0 w) : Calls Tryd.prog 10 #[.int .i32 b, .int .i32 a] w fun e w' => e = .returned (.bool (leftI b a)) ∧ Below w0.heap.size w0 w' :=
  (left_any b a w).mono fun _ _ ⟨he, hb⟩ => ⟨he, h.trans (hb.mono h.size)⟩

set_option maxHeartbeats 400000 in
theorem right_from {w0 w : World} (b a : Int) (h : Below w0.heap.size w0 w) :
    Calls Tryd.prog 11 #[.int .i32 b, .int .i32 a] w fun e w' => e = .returned (.bool (leftI a b)) ∧ Below w0.heap.size w0 w' := by
  go_enter Tryd.func11, Tryd.ntmps11
  go_wp2_with (go_at_call 10; refine (left_from (w0 := w0) _ _ (by assumption)).mono ?_; rintro e w1 ⟨rfl, hb1⟩)
  go_ret
  exact ⟨rfl, by assumption⟩

def opensI (s b a : Int) : Bool := if s = 42 then leftI b a else if s = 95 then leftI b a && (!leftI a b || punctI b) else false

set_option maxHeartbeats 400000 in
theorem opens_from {w0 w : World} (s b a : Int) (h : Below w0.heap.size w0 w) :
    Calls Tryd.prog 8 #[.int .u8 s, .int .i32 b, .int .i32 a] w fun e w' => e = .returned (.bool (opensI s b a)) ∧ Below w0.heap.size w0 w' := by
  by_cases h1 : s = 42
  · subst h1
    go_enter Tryd.func8, Tryd.ntmps8
    go_wp2_with (go_at_call 10; refine (left_from (w0 := w0) _ _ (by assumption)).mono ?_; rintro e w1 ⟨rfl, hb1⟩)
    go_ret
    exact ⟨ret_bool (by simp [opensI]), by assumption⟩
  · by_cases h2 : s = 95
    · subst h2
      go_enter Tryd.func8, Tryd.ntmps8
      go_wp2_with (first
        | (go_at_call 10; refine (left_from (w0 := w0) _ _ (by assumption)).mono ?_; rintro e w1 ⟨rfl, hb1⟩)
        | (go_at_call 11; refine (right_from (w0 := w0) _ _ (by assumption)).mono ?_; rintro e w1 ⟨rfl, hb1⟩)
        | (go_at_call 13; refine (punct_from (w0 := w0) _ (by assumption)).mono ?_; rintro e w1 ⟨rfl, hb1⟩))
      all_goals go_ret
      all_goals exact ⟨ret_bool (by simp [opensI, *]), by assumption⟩
    · have e1 : (s == 42) = false := by simp [h1]
      have e2 : (s == 95) = false := by simp [h2]
      have H1 := Lib.hid h1
      have H2 := Lib.hid h2
      clear h1 h2
      go_enter Tryd.func8, Tryd.ntmps8
      go_wp2_with fail
      go_ret
      exact ⟨ret_bool (by simp [opensI, H1.out, H2.out]), by assumption⟩

def closesI (s b a : Int) : Bool := if s = 42 then leftI a b else if s = 95 then leftI a b && (!leftI b a || punctI a) else false

set_option maxHeartbeats 400000 in
theorem closes_from {w0 w : World} (s b a : Int) (h : Below w0.heap.size w0 w) :
    Calls Tryd.prog 9 #[.int .u8 s, .int .i32 b, .int .i32 a] w fun e w' => e = .returned (.bool (closesI s b a)) ∧ Below w0.heap.size w0 w' := by
  by_cases h1 : s = 42
  · subst h1
    go_enter Tryd.func9, Tryd.ntmps9
    go_wp2_with (go_at_call 11; refine (right_from (w0 := w0) _ _ (by assumption)).mono ?_; rintro e w1 ⟨rfl, hb1⟩)
    go_ret
    exact ⟨ret_bool (by simp [closesI]), by assumption⟩
  · by_cases h2 : s = 95
    · subst h2
      go_enter Tryd.func9, Tryd.ntmps9
      go_wp2_with (first
        | (go_at_call 10; refine (left_from (w0 := w0) _ _ (by assumption)).mono ?_; rintro e w1 ⟨rfl, hb1⟩)
        | (go_at_call 11; refine (right_from (w0 := w0) _ _ (by assumption)).mono ?_; rintro e w1 ⟨rfl, hb1⟩)
        | (go_at_call 13; refine (punct_from (w0 := w0) _ (by assumption)).mono ?_; rintro e w1 ⟨rfl, hb1⟩))
      all_goals go_ret
      all_goals exact ⟨ret_bool (by simp [closesI, *]), by assumption⟩
    · have e1 : (s == 42) = false := by simp [h1]
      have e2 : (s == 95) = false := by simp [h2]
      have H1 := Lib.hid h1
      have H2 := Lib.hid h2
      clear h1 h2
      go_enter Tryd.func9, Tryd.ntmps9
      go_wp2_with fail
      go_ret
      exact ⟨ret_bool (by simp [closesI, H1.out, H2.out]), by assumption⟩

theorem closes_turned (s b a : Int) : closesI s a b = opensI s b a := by unfold closesI opensI; rfl
end Go.Proofs.YtdpcpliplbbfmaaDoor
