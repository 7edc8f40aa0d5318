/- The anchor of a text, of bytes. No walk in this text. -/
import Derived.Test.YtbblgnbafecdmaaGreatDoorPlainFolds
import Derived.Lib.TrimAscii
namespace Go.Proofs.YtbblgnbafecdmaaGreatDoor
open Go.Lib

/-- a sign of anchors -/
def alnum (b : UInt8) : Bool := decide (97 ≤ b.toNat ∧ b.toNat ≤ 122 ∨ 48 ≤ b.toNat ∧ b.toNat ≤ 57)
/-- what is written of bytes; a: something stands there; g: there was a gap -/
def ofB : Bool → Bool → List UInt8 → List UInt8
  | _, _, [] => []
  | a, g, b :: l => if alnum b = true then (if (g && a) = true then 45 :: b :: ofB true false l else b :: ofB true false l) else ofB a true l
def section7 : List UInt8 := [115, 101, 99, 116, 105, 111, 110]
def cutB (x : List UInt8) : List UInt8 := if x = [] then section7 else Lib.trimRightB (x.take 40) 45
def slugB (f : List UInt8) : List UInt8 := cutB (ofB false false f)
def slugL (l : List UInt8) : List UInt8 := slugB (foldF l)

theorem ofB_skip {t : List UInt8} (ht : t ≠ []) (h : ∀ b ∈ t, alnum b = false) (a g : Bool) (l : List UInt8) : ofB a g (t ++ l) = ofB a true l := by
  induction t generalizing g with
  | nil => exact absurd rfl ht
  | cons b t ih =>
    have hb := h b (by simp)
    rw [List.cons_append]
    simp only [ofB]
    rw [if_neg (by rw [hb]; simp)]
    cases t with
    | nil => rfl
    | cons c t => exact ih (by simp) (fun x hx => h x (List.mem_cons_of_mem _ hx)) true
theorem ofB_take (b : UInt8) (h : alnum b = true) (a g : Bool) (l : List UInt8) : ofB a g (b :: l) = (if (g && a) = true then [45, b] else [b]) ++ ofB true false l := by
  simp only [ofB]
  rw [if_pos h]
  cases hg : (g && a) <;> simp
theorem ofB_len (l : List UInt8) : ∀ a g, (ofB a g l).length ≤ 2 * l.length := by
  induction l with
  | nil => intro a g; simp [ofB]
  | cons b l ih =>
    intro a g
    simp only [ofB]
    have h1 := ih true false
    have h2 := ih a true
    split
    · split <;> simp <;> omega
    · simp; omega
theorem alnum_high {b : UInt8} (h : 128 ≤ b.toNat) : alnum b = false := by
  unfold alnum; simp; omega
/-- a token that is no sign -/
theorem tok_skip {r : Nat} {t : List UInt8} (hg : GoodTok (r, t)) (hr : ¬ (97 ≤ r ∧ r ≤ 122 ∨ 48 ≤ r ∧ r ≤ 57)) : t ≠ [] ∧ ∀ b ∈ t, alnum b = false := by
  by_cases h : r < 128
  · obtain ⟨b, e, hb⟩ := good_low hg h
    have e : t = [b] := e
    have hb : b.toNat = r := hb
    subst e
    refine ⟨by simp, fun c hc => ?_⟩
    rw [List.mem_singleton.1 hc]
    unfold alnum
    rw [hb]
    simp; omega
  · have h2 := good_high hg (by show 128 ≤ r; omega)
    refine ⟨?_, fun b hb => alnum_high (h2 b hb)⟩
    rcases hg with ⟨h3, -⟩ | ⟨-, -, h3, -⟩ | ⟨-, b, h3, -⟩
    · have : r < 128 := h3; omega
    · intro e
      have h3 : 2 ≤ t.length := h3
      rw [e] at h3; simp at h3
    · intro e
      have h3 : t = [b] := h3
      rw [e] at h3; cases h3
theorem tok_take {r : Nat} {t : List UInt8} (hg : GoodTok (r, t)) (hr : 97 ≤ r ∧ r ≤ 122 ∨ 48 ≤ r ∧ r ≤ 57) : ∃ b : UInt8, t = [b] ∧ b.toNat = r ∧ alnum b = true ∧ encodeRune r = [b] := by
  obtain ⟨b, e, hb⟩ := good_low hg (show r < 128 by omega)
  have e : t = [b] := e
  have hb : b.toNat = r := hb
  refine ⟨b, e, hb, by unfold alnum; rw [hb]; simp; omega, ?_⟩
  unfold encodeRune
  rw [encodeRuneZ_one (by omega) (by omega)]
  simp only [List.map_cons, List.map_nil, List.cons.injEq, and_true]
  apply UInt8.toNat_inj.1
  rw [← hb]
  simp
end Go.Proofs.YtbblgnbafecdmaaGreatDoor
