/- repair.Text and its reference, as functions of a text's runes; repair.Fold likewise. No program in this text. -/
import Derived.Test.YtbblgnbafecdmaaGreatDoorPlain
import Derived.Lib.TrimAscii
import Derived.Test.YtbblgnbafecdmaaGreatDoorBuild
namespace Go.Proofs.YtbblgnbafecdmaaGreatDoor
open Go.Lib Go.RowKit

theorem enc_high (r : Nat) (h : 128 ≤ r) : ∀ b ∈ encodeRune r, 128 ≤ b.toNat := by
  intro b hb
  unfold encodeRune at hb
  obtain ⟨x, hx, rfl⟩ := List.mem_map.1 hb
  have hr := encodeRuneZ_byte r x hx
  have : 128 ≤ x := by
    unfold encodeRuneZ at hx
    repeat' split at hx
    all_goals simp at hx
    all_goals omega
  simp; omega

theorem good_high {x : Nat × List UInt8} (hx : GoodTok x) (h : 128 ≤ x.1) : ∀ b ∈ x.2, 128 ≤ b.toNat := by
  rcases hx with ⟨h1, -⟩ | ⟨-, e, -⟩ | ⟨-, b, e, hb⟩
  · omega
  · rw [e]; exact enc_high x.1 h
  · rw [e]; intro c hc; simp at hc; subst hc; exact hb

theorem good_low {x : Nat × List UInt8} (hx : GoodTok x) (h : x.1 < 128) : ∃ b : UInt8, x.2 = [b] ∧ b.toNat = x.1 := by
  rcases hx with ⟨-, h⟩ | ⟨h1, -⟩ | ⟨h1, -⟩
  · exact h
  · omega
  · omega

def badB : List UInt8 := [239, 191, 189]

/-- what repair.Text makes of a rune: cr: the byte ahead is CR -/
def textOut (cr : Bool) (r : Nat) : List UInt8 := if r = 0 ∨ r = 65533 then badB else if r = 13 then [10] else if r = 10 ∧ cr = true then [] else encodeRune r
/-- repair.Text -/
def textT : Bool → List (Nat × List UInt8) → List UInt8
  | _, [] => []
  | cr, x :: ts => textOut cr x.1 ++ textT (decide (x.1 = 13)) ts
def textF (l : List UInt8) : List UInt8 := textT false (toks l)

theorem enc_bad : encodeRune ((65533 : Nat) : Int) = badB := by decide

theorem good_enc {x : Nat × List UInt8} (h : GoodTok x) (h1 : ¬ (x.1 = 65533 ∧ x.2.length ≤ 1)) : encodeRune x.1 = x.2 := by
  rcases h with ⟨h, b, e, hb⟩ | ⟨-, e, -, -⟩ | ⟨h, b, e, -⟩
  · rw [e, ← hb]
    unfold encodeRune
    rw [encodeRuneZ_one (by omega) (by have := b.toNat_lt; omega)]
    simp
  · exact e.symm
  · exact absurd ⟨h, by rw [e]; simp⟩ h1

theorem textOut_cases (cr : Bool) (r : Nat) : (r = 0 ∧ textOut cr r = badB) ∨ (r = 65533 ∧ textOut cr r = badB) ∨ (r = 13 ∧ textOut cr r = [10]) ∨ (r = 10 ∧ cr = true ∧ textOut cr r = []) ∨ (r = 10 ∧ cr = false ∧ textOut cr r = encodeRune r) ∨
    (((r : Int) == 0) = false ∧ ((r : Int) == 65533) = false ∧ ((r : Int) == 13) = false ∧ ((r : Int) == 10) = false ∧ textOut cr r = encodeRune r) := by
  unfold textOut
  by_cases h0 : r = 0
  · exact .inl ⟨h0, by simp [h0]⟩
  by_cases h1 : r = 65533
  · exact .inr (.inl ⟨h1, by simp [h1]⟩)
  by_cases h2 : r = 13
  · exact .inr (.inr (.inl ⟨h2, by simp [h2]⟩))
  by_cases h3 : r = 10
  · cases cr
    · exact .inr (.inr (.inr (.inr (.inl ⟨h3, rfl, by simp [h3]⟩))))
    · exact .inr (.inr (.inr (.inl ⟨h3, rfl, by simp [h3]⟩)))
  refine .inr (.inr (.inr (.inr (.inr ⟨?_, ?_, ?_, ?_, by simp [h0, h1, h2, h3]⟩))))
  all_goals simp; omega
theorem enc_length (x : Int) : (encodeRune x).length ≤ 4 := by
  have := Lib.runeCells_le x
  rw [← byteCells_encodeRune, byteCells_length] at this; exact this.2
theorem textOut_length (cr : Bool) (r : Nat) : (textOut cr r).length ≤ 4 := by
  unfold textOut
  repeat' split
  all_goals first | exact enc_length _ | simp [badB]

/-- is the byte ahead of a place a CR? -/
def crAt (l : List UInt8) (pos : Nat) : Bool := decide (0 < pos) && (l.getD (pos - 1) 0 == 13)
theorem crAt_next {L : List UInt8} {pos r n : Nat} (hg : GoodTok (r, (L.drop pos).take n)) (h1 : 1 ≤ n) (hl : pos + n ≤ L.length) : crAt L (pos + n) = decide (r = 13) := by
  have hlen : ((L.drop pos).take n).length = n := by rw [List.length_take, List.length_drop]; omega
  have hget : L.getD (pos + n - 1) 0 = ((L.drop pos).take n).getD (n - 1) 0 := by
    simp only [List.getD, List.getElem?_take, List.getElem?_drop]
    rw [if_pos (by omega)]
    congr 2; omega
  have hmem : ((L.drop pos).take n).getD (n - 1) 0 ∈ (L.drop pos).take n := by
    rw [List.getD_eq_getElem?_getD, List.getElem?_eq_getElem (by omega)]
    exact List.getElem_mem _
  unfold crAt
  rw [decide_eq_true (by omega), Bool.true_and, hget]
  by_cases hr : r < 128
  · obtain ⟨b, e, hb⟩ := good_low hg hr
    have e' : (L.drop pos).take n = [b] := e
    rw [e'] at hmem hlen ⊢
    have hn : n = 1 := by simpa using hlen.symm
    subst hn
    have hb' : b.toNat = r := hb
    show (b == 13) = _
    rw [Bool.eq_iff_iff, beq_iff_eq, decide_eq_true_eq, ← hb', ← UInt8.toNat_inj]; rfl
  · have hh := good_high hg (by simpa using hr) _ hmem
    rw [decide_eq_false (by omega), beq_eq_false_iff_ne]
    intro e; rw [e] at hh; revert hh; decide

theorem text_grow {L acc : List UInt8} {F : List UInt8} {pos r n : Nat} (hA : acc ++ textT (crAt L pos) (toks (L.drop pos)) = F)
    (ht : toks (L.drop pos) = (r, (L.drop pos).take n) :: toks (L.drop (pos + n))) (hg : GoodTok (r, (L.drop pos).take n)) (h1 : 1 ≤ n) (hl : pos + n ≤ L.length) :
    (acc ++ textOut (crAt L pos) r) ++ textT (crAt L (pos + n)) (toks (L.drop (pos + n))) = F := by
  rw [ht] at hA
  rw [crAt_next hg h1 hl, List.append_assoc]; exact hA

end Go.Proofs.YtbblgnbafecdmaaGreatDoor
