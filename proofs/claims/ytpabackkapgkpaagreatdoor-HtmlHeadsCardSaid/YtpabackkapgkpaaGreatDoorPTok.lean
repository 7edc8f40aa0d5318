/- Where the library's searches meet the signs of HTML. Plain. -/
import Derived.Test.YtpabackkapgkpaaGreatDoorPForest
import Derived.Lib.IndexLaws
import Derived.Lib.IndexBytes
import Derived.Lib.IndexMore
namespace Go.Proofs.YtpabackkapgkpaaGreatDoor
open Go.RowKit Go.Lib

theorem ix_cases (c : UInt8) : ∀ l : List UInt8, (Lib.indexByte l c = -1 ∧ l.dropWhile (· != c) = []) ∨ ∃ (i : Nat) (t : List UInt8), Lib.indexByte l c = (i : Int) ∧ i < l.length ∧ l.drop i = c :: t ∧ l.dropWhile (· != c) = c :: t
  | [] => .inl ⟨rfl, rfl⟩
  | b :: l => by
    by_cases h : b = c
    · subst h
      exact .inr ⟨0, l, by simp [Lib.indexByte], by simp, rfl, by simp⟩
    · have e1 : (b == c) = false := by simp [h]
      have e2 : (b :: l).dropWhile (· != c) = l.dropWhile (· != c) := by simp [h]
      rw [e2]
      unfold Lib.indexByte
      rw [e1]
      rcases ix_cases c l with ⟨h1, h2⟩ | ⟨i, t, h1, h2, h3, h4⟩
      · exact .inl ⟨by rw [h1]; rfl, h2⟩
      · refine .inr ⟨i + 1, t, ?_, by simp; exact h2, by simpa using h3, h4⟩
        rw [h1]
        have : ((i : Int) == -1) = false := by simp
        rw [this]
        simp
theorem gt_cases : ∀ l : List UInt8, (Lib.indexByte l 62 = -1 ∧ cutGt l = none) ∨ ∃ i : Nat, Lib.indexByte l 62 = (i : Int) ∧ i < l.length ∧ cutGt l = some (l.take i ++ [62], l.drop (i + 1))
  | [] => .inl ⟨rfl, rfl⟩
  | b :: l => by
    by_cases h : b = 62
    · subst h
      exact .inr ⟨0, by simp [Lib.indexByte], by simp, by simp [cutGt]⟩
    · have e1 : (b == 62) = false := by simp [h]
      unfold Lib.indexByte cutGt
      rw [e1, if_neg h]
      rcases gt_cases l with ⟨h1, h2⟩ | ⟨i, h1, h2, h3⟩
      · exact .inl ⟨by rw [h1]; rfl, by rw [h2]⟩
      · refine .inr ⟨i + 1, ?_, by simp; exact h2, by rw [h3]; rfl⟩
        rw [h1]
        have : ((i : Int) == -1) = false := by simp
        rw [this]
        simp
theorem cut_gt (l : List UInt8) : (Lib.cut l [62] = (l, [], false) ∧ cutGt l = none) ∨ ∃ a r, Lib.cut l [62] = (a, r, true) ∧ cutGt l = some (a ++ [62], r) ∧ a.length + 1 + r.length = l.length := by
  unfold Lib.cut
  rw [Lib.index_one]
  rcases gt_cases l with ⟨h1, h2⟩ | ⟨i, h1, h2, h3⟩
  · rw [h1]; exact .inl ⟨rfl, h2⟩
  · rw [h1, if_pos (by omega)]
    exact .inr ⟨_, _, rfl, by simpa using h3, by simp; omega⟩
theorem cut_head {t a r : List UInt8} (h : cutGt (60 :: t) = some (a ++ [62], r)) : ∃ a', a = 60 :: a' := by
  unfold cutGt at h
  rw [if_neg (by decide)] at h
  cases ht : cutGt t with
  | none => rw [ht] at h; cases h
  | some p =>
    rw [ht] at h
    simp only [Option.some.injEq, Prod.mk.injEq] at h
    cases a with
    | nil => simp at h
    | cons b a' => simp at h; exact ⟨a', by rw [h.1.1]⟩
theorem suffix_is {sign : List UInt8} (h : 2 ≤ sign.length) : Lib.hasSuffix sign [47, 62] = decide (sign.drop (sign.length - 2) = [47, 62]) := by
  rw [← Lib.hasSuffix_of_drop]
  have : decide (([47, 62] : List UInt8).length ≤ sign.length) = true := by simpa using h
  rw [this, Bool.true_and]
  simp only [List.length_cons, List.length_nil]
  by_cases h9 : sign.drop (sign.length - 2) = [47, 62]
  · rw [h9]; decide
  · simp [h9]
end Go.Proofs.YtpabackkapgkpaaGreatDoor
