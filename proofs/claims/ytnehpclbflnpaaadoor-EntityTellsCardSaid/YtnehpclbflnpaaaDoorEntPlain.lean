/- A number's digits, and what they come to. No program's walk in this text. -/
import Derived.Test.YtnehpclbflnpaaaDoorPlain
import Derived.Lib.TrimAscii
import Derived.Lib.Hide
namespace Go.Proofs.YtnehpclbflnpaaaDoor
open Go.Lib Go.RowKit

/-- the value of a digit; -1: it is none -/
def hexVal (b : UInt8) : Int := if 48 ≤ b.toNat ∧ b.toNat ≤ 57 then (b.toNat : Int) - 48 else if 65 ≤ b.toNat ∧ b.toNat ≤ 70 then (b.toNat : Int) - 55 else if 97 ≤ b.toNat ∧ b.toNat ≤ 102 then (b.toNat : Int) - 87 else -1
def isDig (base : Int) (b : UInt8) : Bool := decide (0 ≤ hexVal b) && decide (hexVal b < base)
def valB (base : Int) (l : List UInt8) : Int := l.foldl (fun a b => a * base + hexVal b) 0
theorem valB_snoc (base : Int) (l : List UInt8) (b : UInt8) : valB base (l ++ [b]) = valB base l * base + hexVal b := by simp [valB]
theorem hexVal_bd (b : UInt8) : -1 ≤ hexVal b ∧ hexVal b ≤ 15 := by
  unfold hexVal; repeat' split
  all_goals omega
theorem isDig_lo {base : Int} {b : UInt8} (h : isDig base b = true) : b.toNat < 128 ∧ 0 ≤ hexVal b ∧ hexVal b < base := by
  unfold isDig at h
  simp only [Bool.and_eq_true, decide_eq_true_eq] at h
  refine ⟨?_, h⟩
  have h0 := h.1
  unfold hexVal at h0
  repeat' split at h0
  all_goals omega
theorem snoc_ind {α : Type} {p : List α → Prop} (h0 : p []) (h1 : ∀ l a, p l → p (l ++ [a])) (l : List α) : p l := by
  have key : ∀ m : List α, p m.reverse := by
    intro m
    induction m with
    | nil => exact h0
    | cons a m ih => rw [List.reverse_cons]; exact h1 _ _ ih
  have := key l.reverse
  rwa [List.reverse_reverse] at this
theorem valB_bd {base : Int} (hb : base = 10 ∨ base = 16) (l : List UInt8) (h : ∀ b ∈ l, isDig base b = true) : 0 ≤ valB base l ∧ valB base l < base ^ l.length := by
  induction l using snoc_ind with
  | h0 => exact ⟨Int.le_refl 0, by simp [valB]⟩
  | h1 l b ih =>
    obtain ⟨i1, i2⟩ := ih (fun c hc => h c (List.mem_append_left _ hc))
    obtain ⟨-, h2, h3⟩ := isDig_lo (h b (by simp))
    rw [valB_snoc, List.length_append, List.length_singleton, Int.pow_succ]
    rcases hb with rfl | rfl <;> constructor <;> omega

/-- how many digits a text begins with -/
def digN (base : Int) : List UInt8 → Nat
  | [] => 0
  | b :: l => if isDig base b = true then digN base l + 1 else 0
theorem digN_le (base : Int) (l : List UInt8) : digN base l ≤ l.length := by
  induction l with
  | nil => exact Nat.le_refl _
  | cons b l ih => simp only [digN]; split <;> simp <;> omega
theorem digN_all (base : Int) (l : List UInt8) : ∀ b ∈ l.take (digN base l), isDig base b = true := by
  induction l with
  | nil => intro b hb; simp at hb
  | cons b l ih =>
    intro c hc
    simp only [digN] at hc
    split at hc
    · next h =>
      rw [List.take_succ_cons] at hc
      rcases List.mem_cons.1 hc with rfl | hc
      · exact h
      · exact ih c hc
    · simp at hc
/-- the end of the digits, met from the front -/
theorem digN_at {base : Int} {l : List UInt8} {k : Nat} (h : ∀ b ∈ l.take k, isDig base b = true) (hk : k ≤ l.length) : (k < digN base l ↔ ∃ hlt : k < l.length, isDig base l[k] = true) ∧ k ≤ digN base l := by
  induction l generalizing k with
  | nil => simp at hk; subst hk; simp [digN]
  | cons b l ih =>
    cases k with
    | zero =>
      simp only [digN]
      by_cases hb : isDig base b = true
      · rw [if_pos hb]; exact ⟨⟨fun _ => ⟨by simp, hb⟩, fun _ => by omega⟩, by omega⟩
      · rw [if_neg hb]; exact ⟨⟨fun h => by omega, fun ⟨_, h⟩ => absurd h hb⟩, by omega⟩
    | succ k =>
      have hb : isDig base b = true := h b (by simp)
      obtain ⟨i1, i2⟩ := ih (k := k) (fun c hc => h c (by rw [List.take_succ_cons]; exact List.mem_cons_of_mem _ hc)) (by simpa using hk)
      simp only [digN, if_pos hb]
      refine ⟨?_, by omega⟩
      constructor
      · intro hlt
        obtain ⟨q, hq⟩ := i1.1 (by omega)
        exact ⟨by simp; omega, by simpa using hq⟩
      · rintro ⟨q, hq⟩
        have := i1.2 ⟨by simpa using q, by simpa using hq⟩
        omega

/-- the rune of a number; how many digits it has -/
def numL (base : Int) (most : Nat) (l : List UInt8) : Option (Int × Nat) :=
  if most < digN base l ∨ digN base l = 0 ∨ l[digN base l]? ≠ some 59 then none else some (valB base (l.take (digN base l)), digN base l)
/-- a rune as it is written; what is none is the sign of what is none -/
def runeText (v : Int) : List UInt8 := if v = 0 ∨ Utf8.valid v = false then [239, 191, 189] else encodeRune v
end Go.Proofs.YtnehpclbflnpaaaDoor
