/- Decimal digits: no two numbers have the same ones. No walk in this text. -/
import Derived.Lib.ItoaMem
import Derived.Lib.ItoaLen
namespace Go.Proofs.YtbblgnbafecdmaaGreatDoor
open Go.Lib

/-- the number that digits are -/
def valD (l : List UInt8) : Nat := l.foldl (fun a b => a * 10 + (b.toNat - 48)) 0
theorem valD_snoc (l : List UInt8) (b : UInt8) : valD (l ++ [b]) = valD l * 10 + (b.toNat - 48) := by simp [valD]
theorem u8_48 {n : Nat} (h : n < 10) : (UInt8.ofNat (48 + n)).toNat = 48 + n := by simp; omega
theorem valD_dec (u : Nat) : valD (decDigits u) = u ∧ ∀ b ∈ decDigits u, 48 ≤ b.toNat ∧ b.toNat ≤ 57 := by
  induction u using Nat.strongRecOn with
  | ind u ih =>
    rw [decDigits]
    split
    · next h =>
      refine ⟨by simp [valD]; omega, fun b hb => ?_⟩
      rw [List.mem_singleton.1 hb, u8_48 h]; omega
    · next h =>
      obtain ⟨i1, i2⟩ := ih (u / 10) (by omega)
      refine ⟨?_, fun b hb => ?_⟩
      · rw [valD_snoc, i1, u8_48 (by omega)]; omega
      · rcases List.mem_append.1 hb with hb | hb
        · exact i2 b hb
        · rw [List.mem_singleton.1 hb, u8_48 (by omega)]; omega
theorem dec_inj {a b : Nat} (h : decDigits a = decDigits b) : a = b := by
  have := congrArg valD h
  rwa [(valD_dec a).1, (valD_dec b).1] at this
theorem itoa_pos {n : Int} (h : 0 ≤ n) : Lib.itoa n = decDigits n.toNat := by
  have := itoa_nonneg n.toNat
  rwa [Int.toNat_of_nonneg h] at this
theorem itoa_inj {a b : Int} (ha : 0 ≤ a) (hb : 0 ≤ b) (h : Lib.itoa a = Lib.itoa b) : a = b := by
  rw [itoa_pos ha, itoa_pos hb] at h
  have := dec_inj h; omega
theorem itoa_bytes {a : Int} (ha : 0 ≤ a) : ∀ b ∈ Lib.itoa a, b ≠ 45 := by
  intro b hb e
  rw [itoa_pos ha] at hb
  have := (valD_dec _).2 b hb
  rw [e] at this; revert this; decide
/-- two pairs of words with a sign between that is in none -/
theorem split_inj {s : UInt8} : ∀ {x y x' y' : List UInt8}, (∀ b ∈ x, b ≠ s) → (∀ b ∈ x', b ≠ s) → x ++ s :: y = x' ++ s :: y' → x = x' ∧ y = y'
  | [], y, [], y', _, _, h => by simpa using h
  | [], y, b :: x', y', _, h', h => by
    simp only [List.nil_append, List.cons_append, List.cons.injEq] at h
    exact absurd h.1.symm (h' b (List.mem_cons_self ..))
  | b :: x, y, [], y', h', _, h => by
    simp only [List.nil_append, List.cons_append, List.cons.injEq] at h
    exact absurd h.1 (h' b (List.mem_cons_self ..))
  | b :: x, y, b' :: x', y', h1, h2, h => by
    simp only [List.cons_append, List.cons.injEq] at h
    obtain ⟨rfl, h⟩ := h
    obtain ⟨i1, i2⟩ := split_inj (fun c hc => h1 c (List.mem_cons_of_mem _ hc)) (fun c hc => h2 c (List.mem_cons_of_mem _ hc)) h
    exact ⟨by rw [i1], i2⟩
end Go.Proofs.YtbblgnbafecdmaaGreatDoor
