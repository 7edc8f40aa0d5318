/- repair.Fold as a function of a text's runes. No program's walk in this text. -/
import Derived.Test.YtbblgnbafecdmaaGreatDoorPlainText
namespace Go.Proofs.YtbblgnbafecdmaaGreatDoor
open Go.Lib Go.RowKit

theorem utf8_enc (r : Int) : (Utf8.encode r).data.toList = encodeRune r := by
  unfold Utf8.encode
  by_cases hv : Utf8.valid r = true
  · have hr : (0 ≤ r ∧ r < 55296) ∨ (57344 ≤ r ∧ r ≤ 1114111) := by simpa [Utf8.valid] using hv
    obtain ⟨n, rfl⟩ : ∃ n : Nat, r = n := ⟨r.toNat, by omega⟩
    simp only [hv, if_true, Int.toNat_natCast]
    by_cases h1 : n < 128
    · simp only [h1, if_true]
      unfold encodeRune; rw [encodeRuneZ_one (by omega) (by omega)]
      simp
    have e1 : (192 + (n : Int) / 64).toNat = 192 + n / 64 := by omega
    have e2 : (128 + (n : Int) % 64).toNat = 128 + n % 64 := by omega
    have e3 : (224 + (n : Int) / 4096).toNat = 224 + n / 4096 := by omega
    have e4 : (128 + (n : Int) / 64 % 64).toNat = 128 + n / 64 % 64 := by omega
    have e5 : (240 + (n : Int) / 262144).toNat = 240 + n / 262144 := by omega
    have e6 : (128 + (n : Int) / 4096 % 64).toNat = 128 + n / 4096 % 64 := by omega
    by_cases h2 : n < 2048
    · rw [if_neg h1, if_pos h2]
      unfold encodeRune; rw [encodeRuneZ_two (by omega) (by omega)]
      simp only [List.map_cons, List.map_nil]
      rw [e1, e2]
    by_cases h3 : n < 65536
    · rw [if_neg h1, if_neg h2, if_pos h3]
      unfold encodeRune; rw [encodeRuneZ_three (by omega)]
      simp only [List.map_cons, List.map_nil]
      rw [e2, e3, e4]
    · rw [if_neg h1, if_neg h2, if_neg h3]
      have e : encodeRuneZ (n : Int) = [240 + (n : Int) / 262144, 128 + (n : Int) / 4096 % 64, 128 + (n : Int) / 64 % 64, 128 + (n : Int) % 64] := by
        unfold encodeRuneZ
        rw [if_neg (by omega), if_neg (by omega), if_neg (by omega), if_pos (by omega)]
      unfold encodeRune; rw [e]
      simp only [List.map_cons, List.map_nil]
      rw [e2, e4, e5, e6]
  · have hr : ¬ ((0 ≤ r ∧ r < 55296) ∨ (57344 ≤ r ∧ r ≤ 1114111)) := by
      intro h; apply hv; simpa [Utf8.valid] using h
    have e : encodeRuneZ r = [239, 191, 189] := by
      unfold encodeRuneZ
      rw [if_neg (by omega), if_neg (by omega), if_neg (by omega), if_neg (by omega)]
    unfold encodeRune; rw [e, if_neg hv]
    decide

def greatSpans : List (Int × Int) := [(65, 90), (192, 214), (216, 222)]
/-- is a rune a space; a great letter? -/
def spaceI (r : Int) : Bool := amongB r spaceSpans
def greatI (r : Int) : Bool := amongB r greatSpans
/-- is something written? -/
def anyB (acc : List UInt8) : Bool := decide (0 < acc.length)
/-- what a rune is written as -/
def foldTok (x : Nat × List UInt8) : List UInt8 := if greatI x.1 = true then encodeRune ((x.1 : Int) + 32) else x.2

/-- repair.Fold: any: something was written; gap: a space was met -/
def foldT : Bool → Bool → List (Nat × List UInt8) → List UInt8
  | _, _, [] => []
  | any, gap, x :: ts =>
    if spaceI x.1 = true then foldT any true ts
    else (if gap = true ∧ any = true then [32] else []) ++ (foldTok x ++ foldT true false ts)
def foldF (l : List UInt8) : List UInt8 := foldT false false (toks l)

theorem fold_gap (ts : List (Nat × List UInt8)) : foldT false true ts = foldT false false ts := by
  cases ts with
  | nil => rfl
  | cons x ts => simp only [foldT]; split <;> simp

theorem great_facts {r : Nat} (h : greatI (r : Int) = true) : 65 ≤ r ∧ r ≤ 222 := by
  unfold greatI amongB greatSpans at h
  simp at h; omega
theorem foldTok_length {x : Nat × List UInt8} (hg : GoodTok x) : 1 ≤ (foldTok x).length ∧ (foldTok x).length ≤ 2 * x.2.length := by
  unfold foldTok
  have h2 : 1 ≤ x.2.length := by
    rcases hg with ⟨_, b, e, _⟩ | ⟨_, _, h, _⟩ | ⟨_, b, e, _⟩
    · rw [e]; simp
    · omega
    · rw [e]; simp
  split
  · next h =>
    have hf := great_facts h
    unfold encodeRune
    by_cases hs : x.1 < 96
    · rw [encodeRuneZ_one (by omega) (by omega)]; simp; omega
    · rw [encodeRuneZ_two (by omega) (by omega)]; simp; omega
  · exact ⟨h2, by omega⟩

theorem anyB_app {acc t : List UInt8} (h : 1 ≤ t.length) : anyB (acc ++ t) = true := by
  unfold anyB; rw [decide_eq_true_eq, List.length_append]; omega

/-- a space -/
theorem fold_space {L acc F : List UInt8} {a g : Bool} {pos r n : Nat} (hA : acc ++ foldT a g (toks (L.drop pos)) = F)
    (ht : toks (L.drop pos) = (r, (L.drop pos).take n) :: toks (L.drop (pos + n))) (hs : spaceI r = true) : acc ++ foldT a true (toks (L.drop (pos + n))) = F := by
  rw [ht] at hA
  simpa [foldT, hs] using hA
/-- another rune, behind a gap -/
theorem fold_gapped {L acc F : List UInt8} {a g : Bool} {pos r n : Nat} (hA : acc ++ foldT a g (toks (L.drop pos)) = F)
    (ht : toks (L.drop pos) = (r, (L.drop pos).take n) :: toks (L.drop (pos + n))) (hs : spaceI r = false) (hg : g = true ∧ a = true) :
    ((acc ++ [32]) ++ foldTok (r, (L.drop pos).take n)) ++ foldT true false (toks (L.drop (pos + n))) = F := by
  rw [ht] at hA
  rw [← hA]
  simp [foldT, hs, hg]
/-- another rune, behind none -/
theorem fold_plain {L acc F : List UInt8} {a g : Bool} {pos r n : Nat} (hA : acc ++ foldT a g (toks (L.drop pos)) = F)
    (ht : toks (L.drop pos) = (r, (L.drop pos).take n) :: toks (L.drop (pos + n))) (hs : spaceI r = false) (hg : ¬ (g = true ∧ a = true)) :
    (acc ++ foldTok (r, (L.drop pos).take n)) ++ foldT true false (toks (L.drop (pos + n))) = F := by
  rw [ht] at hA
  rw [← hA]
  simp only [foldT, hs, if_neg hg]
  simp
end Go.Proofs.YtbblgnbafecdmaaGreatDoor
