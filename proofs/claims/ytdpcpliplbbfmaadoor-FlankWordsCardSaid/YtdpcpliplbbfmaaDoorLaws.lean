/- The laws of chapter 13: alive, FlankTurns, FlankWords, FlankEnds, FlankPuncts: the walks. -/
import Derived.Test.YtdpcpliplbbfmaaDoorAround
namespace Go.Proofs.YtdpcpliplbbfmaaDoor
open Go.RowKit

/-- what every law's walk is told of the world: the decoder's two tables lie where they lay -/
structure Tabs (w : World) : Prop where
  tabs : Lib.Utf8Tabs 0 1 w
  lt3 : 0 < w.heap.size
  lt4 : 1 < w.heap.size

theorem Tabs.below {B : Nat} {w w' : World} (h : Tabs w) (hb : Below B w w') (h3 : 0 < B) (h4 : 1 < B) : Tabs w' :=
  ⟨tabs_below h.tabs hb h3 h4, Nat.lt_of_lt_of_le h.lt3 hb.size, Nat.lt_of_lt_of_le h.lt4 hb.size⟩

theorem alive_around : aroundGo ⟨#[195, 169, 42, 120]⟩ 2 3 4 0 10 10 = (233, 120) := by decide +kernel
theorem alive_1 : opensI 42 32 97 = true := by decide +kernel
theorem alive_2 : opensI 95 97 98 = false := by decide +kernel
theorem alive_3 : closesI 42 97 32 = true := by decide +kernel
theorem alive_4 : leftI 97 32 = false := by decide +kernel

set_option maxHeartbeats 400000 in
theorem alive_any (w : World) (hT : Tabs w) :
    Calls Tryd.prog 7 #[] w fun e w' => e = .returned (.bool true) ∧ Below w.heap.size w w' := by
  have hB := Below.refl w.heap.size w
  have a0 := alive_around
  have a1 := alive_1
  have a2 := alive_2
  have a3 := alive_3
  have a4 := alive_4
  have HA := Lib.hid a0
  clear a0
  go_enter Tryd.func7, Tryd.ntmps7
  go_wp2_with fail
  refine (around_from (w0 := w) ⟨#[195, 169, 42, 120]⟩ 2 3 hB hT.tabs hT.lt3 hT.lt4 (by decide)).mono ?_
  rintro e w1 ⟨rfl, hb1⟩
  rw [show (ByteArray.mk #[195, 169, 42, 120]).size = 4 from rfl, HA.out]
  go_wp2_with (first
    | (go_at_call 8; refine (opens_from (w0 := w) _ _ _ (by assumption)).mono ?_; rintro e w1 ⟨rfl, hb1⟩)
    | (go_at_call 9; refine (closes_from (w0 := w) _ _ _ (by assumption)).mono ?_; rintro e w1 ⟨rfl, hb1⟩)
    | (go_at_call 10; refine (left_from (w0 := w) _ _ (by assumption)).mono ?_; rintro e w1 ⟨rfl, hb1⟩))
  go_ret
  exact ⟨rfl, by assumption⟩

theorem opens_star (b a : Int) (h : opensI 95 b a = true) : opensI 42 b a = true := by
  simp [opensI] at h ⊢; exact h.1
theorem opens_none (s b a : Int) (h1 : (s == 42) = false) (h2 : (s == 95) = false) : opensI s b a = false := by
  have h1 : ¬ s = 42 := by simpa using h1
  have h2 : ¬ s = 95 := by simpa using h2
  simp [opensI, h1, h2]

set_option maxHeartbeats 1000000 in
theorem turns_any (s b a : Int) (w : World) (hT : Tabs w) :
    Calls Tryd.prog 3 #[.int .u8 s, .int .i32 b, .int .i32 a] w fun e w' => e = .returned (.bool true) ∧ Below w.heap.size w w' := by
  have hc : closesI s a b = opensI s b a := closes_turned s b a
  have key : ((s == 42) = true ∨ (s == 95) = true) ∨ ((s == 42) = false ∧ (s == 95) = false ∧ opensI s b a = false) := by
    by_cases h1 : (s == 42) = true
    · exact .inl (.inl h1)
    · by_cases h2 : (s == 95) = true
      · exact .inl (.inr h2)
      · simp only [Bool.not_eq_true] at h1 h2
        exact .inr ⟨h1, h2, opens_none s b a h1 h2⟩
  have key2 : opensI 95 b a = false ∨ (opensI 95 b a = true ∧ opensI 42 b a = true) := by
    by_cases h : opensI 95 b a = true
    · exact .inr ⟨h, opens_star b a h⟩
    · exact .inl (by simpa using h)
  go_enter Tryd.func3, Tryd.ntmps3
  go_wp2_with fail
  refine (alive_any w hT).mono ?_
  rintro e w1 ⟨rfl, hb1⟩
  rcases key with (h1 | h1) | ⟨h1, h2, h3⟩ <;> rcases key2 with h4 | ⟨h4, h5⟩
  all_goals
    go_wp2_with (first
      | (go_at_call 8; refine (opens_from (w0 := w) _ _ _ (by assumption)).mono ?_; rintro e w1 ⟨rfl, hb1⟩)
      | (go_at_call 9; refine (closes_from (w0 := w) _ _ _ (by assumption)).mono ?_; rintro e w1 ⟨rfl, hb1⟩)
      | (go_at_call 11; refine (right_from (w0 := w) _ _ (by assumption)).mono ?_; rintro e w1 ⟨rfl, hb1⟩)
      | (go_at_call 10; refine (left_from (w0 := w) _ _ (by assumption)).mono ?_; rintro e w1 ⟨rfl, hb1⟩))
  all_goals go_ret
  all_goals exact ⟨by simp [*], by assumption⟩

theorem letter_space (x : Int) (h0 : 97 ≤ x) (h1 : x ≤ 122) : amongB x spaceSpans = false := by
  simp [amongB, spaceSpans]; omega
theorem letter_punct (x : Int) (h0 : 97 ≤ x) (h1 : x ≤ 122) : punctI x = false := by
  unfold punctI; rw [if_pos (by omega)]; simp [amongB, asciiSpans]; omega
theorem sign_space (x : Int) (h : 33 ≤ x ∧ x ≤ 47 ∨ 58 ≤ x ∧ x ≤ 64) : amongB x spaceSpans = false := by
  simp [amongB, spaceSpans]; omega
theorem sign_punct (x : Int) (h : 33 ≤ x ∧ x ≤ 47 ∨ 58 ≤ x ∧ x ≤ 64) : punctI x = true := by
  unfold punctI; rw [if_pos (by omega)]; simp [amongB, asciiSpans]; omega
theorem blank_space : amongB 32 spaceSpans = true := by decide +kernel
theorem blank_punct : punctI 32 = false := by decide +kernel

set_option maxHeartbeats 1000000 in
theorem words_any (a b : Int) (w : World) (hT : Tabs w) (ha : 0 ≤ a ∧ a ≤ 255) (hb : 0 ≤ b ∧ b ≤ 255) :
    Calls Tryd.prog 4 #[.int .u8 a, .int .u8 b] w fun e w' => e = .returned (.bool true) ∧ Below w.heap.size w w' := by
  obtain ⟨ha0, ha9⟩ := ha
  obtain ⟨hb0, hb9⟩ := hb
  have hB := Below.refl w.heap.size w
  by_cases h1 : a < 97
  · go_enter Tryd.func4, Tryd.ntmps4
    go_wp2_with (go_at_call 7; refine (alive_any w hT).mono ?_; rintro e w1 ⟨rfl, hb1⟩)
    go_ret
    exact ⟨rfl, by assumption⟩
  have h1' : 97 ≤ a := by omega
  by_cases h2 : 122 < a
  · go_enter Tryd.func4, Tryd.ntmps4
    go_wp2_with (go_at_call 7; refine (alive_any w hT).mono ?_; rintro e w1 ⟨rfl, hb1⟩)
    go_ret
    exact ⟨rfl, by assumption⟩
  have h2' : a ≤ 122 := by omega
  by_cases h3 : b < 97
  · go_enter Tryd.func4, Tryd.ntmps4
    go_wp2_with (go_at_call 7; refine (alive_any w hT).mono ?_; rintro e w1 ⟨rfl, hb1⟩)
    go_ret
    exact ⟨rfl, by assumption⟩
  have h3' : 97 ≤ b := by omega
  by_cases h4 : 122 < b
  · go_enter Tryd.func4, Tryd.ntmps4
    go_wp2_with (go_at_call 7; refine (alive_any w hT).mono ?_; rintro e w1 ⟨rfl, hb1⟩)
    go_ret
    exact ⟨rfl, by assumption⟩
  have h4' : b ≤ 122 := by omega
  have sa := letter_space a h1' h2'
  have pa := letter_punct a h1' h2'
  have sb := letter_space b h3' h4'
  have pb := letter_punct b h3' h4'
  have f1 : opensI 42 a b = true := by simp [opensI, leftI, sa, pa, sb, pb]
  have f2 : closesI 42 a b = true := by simp [closesI, leftI, sa, pa, sb, pb]
  have f3 : opensI 95 a b = false := by simp [opensI, leftI, sa, pa, sb, pb]
  have f4 : closesI 95 a b = false := by simp [closesI, leftI, sa, pa, sb, pb]
  have f5 : opensI 95 32 b = true := by simp [opensI, leftI, sb, pb, blank_space]
  have f6 : closesI 95 a 32 = true := by simp [closesI, leftI, sa, pa, blank_space]
  have f7 : opensI 42 a 32 = false := by simp [opensI, leftI, blank_space]
  have f8 : closesI 42 32 b = false := by simp [closesI, leftI, blank_space]
  clear sa pa sb pb h1 h2 h3 h4
  go_enter Tryd.func4, Tryd.ntmps4
  go_wp2_with fail
  refine (alive_any w hT).mono ?_
  rintro e w1 ⟨rfl, hb1⟩
  go_wp2_with (first
    | (go_at_call 8; refine (opens_from (w0 := w) _ _ _ (by assumption)).mono ?_; rintro e w1 ⟨rfl, hb1⟩)
    | (go_at_call 9; refine (closes_from (w0 := w) _ _ _ (by assumption)).mono ?_; rintro e w1 ⟨rfl, hb1⟩))
  go_ret
  exact ⟨rfl, by assumption⟩

theorem around_ends (s : ByteArray) (frm to : Int) (hf : frm ≤ 0) (ht : to < 0 ∨ to = s.size) (f pos : Nat) (b a : Int) : aroundGo s frm to f pos b a = (b, a) := by
  induction f generalizing pos with
  | zero => rfl
  | succ f ih =>
    unfold aroundGo
    split
    · next hp =>
      have := width_pos s pos hp
      rw [if_neg (by omega), if_neg (by omega)]
      exact ih _
    · rfl

set_option maxHeartbeats 1000000 in
theorem ends_any (s : ByteArray) (w : World) (hT : Tabs w) (hm : s.size ≤ 9223372036854775807) :
    Calls Tryd.prog 5 #[.string s] w fun e w' => e = .returned (.bool true) ∧ Below w.heap.size w w' := by
  have hB := Below.refl w.heap.size w
  by_cases h1 : 100 < s.size
  · go_enter Tryd.func5, Tryd.ntmps5
    go_wp2_with (go_at_call 7; refine (alive_any w hT).mono ?_; rintro e w1 ⟨rfl, hb1⟩)
    go_ret
    exact ⟨rfl, by assumption⟩
  have h1' : s.size ≤ 100 := by omega
  clear h1
  go_enter Tryd.func5, Tryd.ntmps5
  go_wp2_with fail
  refine (alive_any w hT).mono ?_
  rintro e w1 ⟨rfl, hb1⟩
  go_wp2_with fail
  refine (around_from (w0 := w) s 0 s.size (by assumption) hT.tabs hT.lt3 hT.lt4 (by omega)).mono ?_
  rintro e w1 ⟨rfl, hb1⟩
  rw [around_ends s 0 s.size (by omega) (.inr rfl)]
  go_wp2_with fail
  refine (around_from (w0 := w) s (-1) (-1) (by assumption) hT.tabs hT.lt3 hT.lt4 (by omega)).mono ?_
  rintro e w1 ⟨rfl, hb1⟩
  rw [around_ends s (-1) (-1) (by omega) (.inl (by omega))]
  go_wp2_with fail
  go_ret
  exact ⟨rfl, by assumption⟩

theorem puncts_main (p a s : Int) (hp : 33 ≤ p ∧ p ≤ 47 ∨ 58 ≤ p ∧ p ≤ 64) (ha : 97 ≤ a ∧ a ≤ 122) (hs : s = 42 ∨ s = 95) :
    opensI s p a = true ∧ closesI s p a = false ∧ closesI s a p = true ∧ opensI s a p = false ∧ opensI s 32 p = true ∧ closesI s 32 p = false := by
  have sa := letter_space a ha.1 ha.2
  have pa := letter_punct a ha.1 ha.2
  have sp := sign_space p hp
  have pp := sign_punct p hp
  have l1 : leftI p a = true := by simp [leftI, sa, pa]
  have l2 : leftI a p = false := by simp [leftI, sa, pa, sp, pp]
  have l3 : leftI 32 p = true := by simp [leftI, sp, pp, blank_space]
  have l4 : leftI p 32 = false := by simp [leftI, blank_space]
  rcases hs with rfl | rfl
  · simp [opensI, closesI, l1, l2, l3, l4]
  · simp [opensI, closesI, l1, l2, l3, l4, pp]

set_option maxHeartbeats 2000000 in
theorem puncts_any (p a s : Int) (w : World) (hT : Tabs w) (hp : 0 ≤ p ∧ p ≤ 255) (ha : 0 ≤ a ∧ a ≤ 255) :
    Calls Tryd.prog 6 #[.int .u8 p, .int .u8 a, .int .u8 s] w fun e w' => e = .returned (.bool true) ∧ Below w.heap.size w w' := by
  obtain ⟨hp0, hp9⟩ := hp
  obtain ⟨ha0, ha9⟩ := ha
  have hB := Below.refl w.heap.size w
  by_cases g1 : p < 33
  · go_enter Tryd.func6, Tryd.ntmps6
    go_wp2_with (go_at_call 7; refine (alive_any w hT).mono ?_; rintro e w1 ⟨rfl, hb1⟩)
    go_ret
    exact ⟨rfl, by assumption⟩
  have g1' : 33 ≤ p := by omega
  by_cases g2 : 64 < p
  · have q1 : 47 < p := by omega
    have q2 : 58 ≤ p := by omega
    go_enter Tryd.func6, Tryd.ntmps6
    go_wp2_with (go_at_call 7; refine (alive_any w hT).mono ?_; rintro e w1 ⟨rfl, hb1⟩)
    go_ret
    exact ⟨rfl, by assumption⟩
  have g2' : p ≤ 64 := by omega
  by_cases g3 : 47 < p ∧ p < 58
  · obtain ⟨q1, q2⟩ := g3
    go_enter Tryd.func6, Tryd.ntmps6
    go_wp2_with (go_at_call 7; refine (alive_any w hT).mono ?_; rintro e w1 ⟨rfl, hb1⟩)
    go_ret
    exact ⟨rfl, by assumption⟩
  have hP : 33 ≤ p ∧ p ≤ 47 ∨ 58 ≤ p ∧ p ≤ 64 := by omega
  clear g1 g2 g3
  have HP := Lib.hid hP
  clear hP
  by_cases g8 : p ≤ 47
  · by_cases g4 : a < 97
    · go_enter Tryd.func6, Tryd.ntmps6
      go_wp2_with (go_at_call 7; refine (alive_any w hT).mono ?_; rintro e w1 ⟨rfl, hb1⟩)
      go_ret
      exact ⟨rfl, by assumption⟩
    have g4' : 97 ≤ a := by omega
    by_cases g5 : 122 < a
    · go_enter Tryd.func6, Tryd.ntmps6
      go_wp2_with (go_at_call 7; refine (alive_any w hT).mono ?_; rintro e w1 ⟨rfl, hb1⟩)
      go_ret
      exact ⟨rfl, by assumption⟩
    have g5' : a ≤ 122 := by omega
    clear g4 g5
    by_cases g6 : s = 42
    · subst g6
      obtain ⟨f1, f2, f3, f4, f5, f6⟩ := puncts_main p a 42 HP.out ⟨g4', g5'⟩ (.inl rfl)
      go_enter Tryd.func6, Tryd.ntmps6
      go_wp2_with fail
      refine (alive_any w hT).mono ?_
      rintro e w1 ⟨rfl, hb1⟩
      go_wp2_with (first
        | (go_at_call 8; refine (opens_from (w0 := w) _ _ _ (by assumption)).mono ?_; rintro e w1 ⟨rfl, hb1⟩)
        | (go_at_call 9; refine (closes_from (w0 := w) _ _ _ (by assumption)).mono ?_; rintro e w1 ⟨rfl, hb1⟩))
      go_ret
      exact ⟨rfl, by assumption⟩
    have n1 : (s != 42) = true := by simp [g6]
    have n1' : (s == 42) = false := by simp [g6]
    by_cases g7 : s = 95
    · subst g7
      obtain ⟨f1, f2, f3, f4, f5, f6⟩ := puncts_main p a 95 HP.out ⟨g4', g5'⟩ (.inr rfl)
      go_enter Tryd.func6, Tryd.ntmps6
      go_wp2_with fail
      refine (alive_any w hT).mono ?_
      rintro e w1 ⟨rfl, hb1⟩
      go_wp2_with (first
        | (go_at_call 8; refine (opens_from (w0 := w) _ _ _ (by assumption)).mono ?_; rintro e w1 ⟨rfl, hb1⟩)
        | (go_at_call 9; refine (closes_from (w0 := w) _ _ _ (by assumption)).mono ?_; rintro e w1 ⟨rfl, hb1⟩))
      go_ret
      exact ⟨rfl, by assumption⟩
    have n2 : (s != 95) = true := by simp [g7]
    have n2' : (s == 95) = false := by simp [g7]
    clear g6 g7
    go_enter Tryd.func6, Tryd.ntmps6
    go_wp2_with (go_at_call 7; refine (alive_any w hT).mono ?_; rintro e w1 ⟨rfl, hb1⟩)
    go_ret
    exact ⟨rfl, by assumption⟩
  · have q1 : 47 < p := by omega
    have q2 : 58 ≤ p := by have := HP.out; omega
    clear g8
    by_cases g4 : a < 97
    · go_enter Tryd.func6, Tryd.ntmps6
      go_wp2_with (go_at_call 7; refine (alive_any w hT).mono ?_; rintro e w1 ⟨rfl, hb1⟩)
      go_ret
      exact ⟨rfl, by assumption⟩
    have g4' : 97 ≤ a := by omega
    by_cases g5 : 122 < a
    · go_enter Tryd.func6, Tryd.ntmps6
      go_wp2_with (go_at_call 7; refine (alive_any w hT).mono ?_; rintro e w1 ⟨rfl, hb1⟩)
      go_ret
      exact ⟨rfl, by assumption⟩
    have g5' : a ≤ 122 := by omega
    clear g4 g5
    by_cases g6 : s = 42
    · subst g6
      obtain ⟨f1, f2, f3, f4, f5, f6⟩ := puncts_main p a 42 HP.out ⟨g4', g5'⟩ (.inl rfl)
      go_enter Tryd.func6, Tryd.ntmps6
      go_wp2_with fail
      refine (alive_any w hT).mono ?_
      rintro e w1 ⟨rfl, hb1⟩
      go_wp2_with (first
        | (go_at_call 8; refine (opens_from (w0 := w) _ _ _ (by assumption)).mono ?_; rintro e w1 ⟨rfl, hb1⟩)
        | (go_at_call 9; refine (closes_from (w0 := w) _ _ _ (by assumption)).mono ?_; rintro e w1 ⟨rfl, hb1⟩))
      go_ret
      exact ⟨rfl, by assumption⟩
    have n1 : (s != 42) = true := by simp [g6]
    have n1' : (s == 42) = false := by simp [g6]
    by_cases g7 : s = 95
    · subst g7
      obtain ⟨f1, f2, f3, f4, f5, f6⟩ := puncts_main p a 95 HP.out ⟨g4', g5'⟩ (.inr rfl)
      go_enter Tryd.func6, Tryd.ntmps6
      go_wp2_with fail
      refine (alive_any w hT).mono ?_
      rintro e w1 ⟨rfl, hb1⟩
      go_wp2_with (first
        | (go_at_call 8; refine (opens_from (w0 := w) _ _ _ (by assumption)).mono ?_; rintro e w1 ⟨rfl, hb1⟩)
        | (go_at_call 9; refine (closes_from (w0 := w) _ _ _ (by assumption)).mono ?_; rintro e w1 ⟨rfl, hb1⟩))
      go_ret
      exact ⟨rfl, by assumption⟩
    have n2 : (s != 95) = true := by simp [g7]
    have n2' : (s == 95) = false := by simp [g7]
    clear g6 g7
    go_enter Tryd.func6, Tryd.ntmps6
    go_wp2_with (go_at_call 7; refine (alive_any w hT).mono ?_; rintro e w1 ⟨rfl, hb1⟩)
    go_ret
    exact ⟨rfl, by assumption⟩
theorem flankTurns_walk (s b a : Int) (w : World) (hT : Tabs w) (_ : 0 ≤ s ∧ s ≤ 255) (_ : -2147483648 ≤ b ∧ b ≤ 2147483647) (_ : -2147483648 ≤ a ∧ a ≤ 2147483647) :
    Calls Tryd.prog 3 #[.int .u8 s, .int .i32 b, .int .i32 a] w fun e w' => e = .returned (.bool true) ∧ Below w.heap.size w w' := turns_any s b a w hT
theorem flankWords_walk (a b : Int) (w : World) (hT : Tabs w) (ha : 0 ≤ a ∧ a ≤ 255) (hb : 0 ≤ b ∧ b ≤ 255) :
    Calls Tryd.prog 4 #[.int .u8 a, .int .u8 b] w fun e w' => e = .returned (.bool true) ∧ Below w.heap.size w w' := words_any a b w hT ha hb
theorem flankEnds_walk (s : ByteArray) (w : World) (hT : Tabs w) (hm : s.size ≤ 9223372036854775807) :
    Calls Tryd.prog 5 #[.string s] w fun e w' => e = .returned (.bool true) ∧ Below w.heap.size w w' := ends_any s w hT hm
theorem flankPuncts_walk (p a s : Int) (w : World) (hT : Tabs w) (hp : 0 ≤ p ∧ p ≤ 255) (ha : 0 ≤ a ∧ a ≤ 255) (_ : 0 ≤ s ∧ s ≤ 255) :
    Calls Tryd.prog 6 #[.int .u8 p, .int .u8 a, .int .u8 s] w fun e w' => e = .returned (.bool true) ∧ Below w.heap.size w w' := puncts_any p a s w hT hp ha
end Go.Proofs.YtdpcpliplbbfmaaDoor
