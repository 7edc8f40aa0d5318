/- Bytes as runes: a text parted into runes, and what repair makes of it. No program in this text. -/
import Derived.Lib.MapLaws
import Derived.Lib.RuneBytes
namespace Go.Proofs.YtbblgnbafecdmaaGreatDoor
open Go.Lib

/-- the text begins with no continuation byte -/
def bnd (l : List UInt8) : Prop := ∀ b, l.head? = some b → b.toNat / 64 ≠ 2

theorem bnd_nil : bnd [] := by intro b h; cases h
theorem bnd_cons {a : UInt8} {l : List UInt8} (h : a.toNat / 64 ≠ 2) : bnd (a :: l) := by
  intro b hb; cases hb; exact h

theorem decodeN_big (n m b0 b1 b2 b3 : Nat) (hn : 3 < n) (hm : 3 < m) : decodeN n b0 b1 b2 b3 = decodeN m b0 b1 b2 b3 := by
  have a1 : 1 < n := by omega
  have a2 : 2 < n := by omega
  have c1 : 1 < m := by omega
  have c2 : 2 < m := by omega
  simp only [decodeN, a1, a2, hn, c1, c2, hm, true_and]

/-- what stands behind does not count, if it begins no continuation -/
theorem dec_app (s q : List UInt8) (hs : s ≠ []) (hq : bnd q) : decodeL (s ++ q) = decodeL s := by
  cases q with
  | nil => rw [List.append_nil]
  | cons a t =>
    have ha : a.toNat / 64 ≠ 2 := hq a rfl
    rw [decodeL_N, decodeL_N]
    match s, hs with
    | [x], _ =>
      have e : ¬ (1 < ([x] : List UInt8).length) := by simp
      simp only [List.cons_append, List.nil_append, List.getD_cons_zero, List.getD_cons_succ, decodeN, e, ha, false_and, and_false, if_false]
    | [x, y], _ =>
      have e : ¬ (2 < ([x, y] : List UInt8).length) := by simp
      have f1 : 1 < (x :: y :: a :: t).length := by simp
      have f2 : 1 < ([x, y] : List UInt8).length := by simp
      simp only [List.cons_append, List.nil_append, List.getD_cons_zero, List.getD_cons_succ, decodeN, e, f1, f2, ha, false_and, and_false, if_false, true_and]
    | [x, y, z], _ =>
      have e : ¬ (3 < ([x, y, z] : List UInt8).length) := by simp
      have f1 : 1 < (x :: y :: z :: a :: t).length := by simp
      have f2 : 1 < ([x, y, z] : List UInt8).length := by simp
      have f3 : 2 < (x :: y :: z :: a :: t).length := by simp
      have f4 : 2 < ([x, y, z] : List UInt8).length := by simp
      simp only [List.cons_append, List.nil_append, List.getD_cons_zero, List.getD_cons_succ, decodeN, e, f1, f2, f3, f4, ha, false_and, and_false, if_false, true_and]
    | x :: y :: z :: u :: r, _ =>
      simp only [List.cons_append, List.getD_cons_zero, List.getD_cons_succ]
      exact decodeN_big _ _ _ _ _ _ (by simp) (by simp)

/-- a text parted into its runes, each with its bytes -/
def toksF : Nat → List UInt8 → List (Nat × List UInt8)
  | 0, _ => []
  | n + 1, l => if l = [] then [] else ((decodeL l).1, l.take (decodeL l).2) :: toksF n (l.drop (decodeL l).2)
def toks (l : List UInt8) : List (Nat × List UInt8) := toksF l.length l

theorem toksF_nil (n : Nat) : toksF n [] = [] := by cases n <;> simp [toksF]
theorem toksF_fuel : ∀ (n m : Nat) (l : List UInt8), l.length ≤ n → l.length ≤ m → toksF n l = toksF m l
  | 0, m, l, hn, _ => by
    have : l = [] := List.eq_nil_of_length_eq_zero (by omega)
    subst this; rw [toksF_nil, toksF_nil]
  | n + 1, 0, l, _, hm => by
    have : l = [] := List.eq_nil_of_length_eq_zero (by omega)
    subst this; rw [toksF_nil, toksF_nil]
  | n + 1, m + 1, l, hn, hm => by
    by_cases hne : l = []
    · subst hne; rw [toksF_nil, toksF_nil]
    · have hw := decodeL_width l
      have hl : 0 < l.length := List.length_pos_iff.2 hne
      simp only [toksF, if_neg hne]
      rw [toksF_fuel n m _ (by rw [List.length_drop]; omega) (by rw [List.length_drop]; omega)]

theorem toks_nil : toks [] = [] := rfl
theorem toks_step (l : List UInt8) (hne : l ≠ []) : toks l = ((decodeL l).1, l.take (decodeL l).2) :: toks (l.drop (decodeL l).2) := by
  have hw := decodeL_width l
  have hl : 0 < l.length := List.length_pos_iff.2 hne
  unfold toks
  obtain ⟨n, hn⟩ : ∃ n, l.length = n + 1 := ⟨l.length - 1, by omega⟩
  rw [hn]
  simp only [toksF, if_neg hne]
  rw [toksF_fuel n _ _ (by rw [List.length_drop]; omega) (Nat.le_refl _)]

/-- induction along a text's runes -/
theorem toks_ind {p : List UInt8 → Prop} (h0 : p []) (h1 : ∀ l, l ≠ [] → p (l.drop (decodeL l).2) → p l) (l : List UInt8) : p l := by
  generalize hn : l.length = n
  induction n using Nat.strongRecOn generalizing l with
  | ind n ih =>
    by_cases hne : l = []
    · subst hne; exact h0
    · have hw := decodeL_width l
      have hl : 0 < l.length := List.length_pos_iff.2 hne
      exact h1 l hne (ih _ (by rw [List.length_drop]; omega) _ rfl)

theorem toks_app (s q : List UInt8) (hq : bnd q) : toks (s ++ q) = toks s ++ toks q := by
  induction s using toks_ind with
  | h0 => rfl
  | h1 s hs ih =>
    have hle := decodeL_le s hs
    rw [toks_step s hs, toks_step (s ++ q) (by simp [hs]), dec_app s q hs hq, List.take_append_of_le_length hle, List.drop_append_of_le_length hle, ih]
    rfl

theorem toks_flat (l : List UInt8) : (toks l).flatMap (·.2) = l := by
  induction l using toks_ind with
  | h0 => rfl
  | h1 l hl ih => rw [toks_step l hl, List.flatMap_cons, ih, List.take_append_drop]

/-- a rune with its bytes: as they come out of a text -/
def GoodTok (x : Nat × List UInt8) : Prop :=
  (x.1 < 128 ∧ ∃ b : UInt8, x.2 = [b] ∧ b.toNat = x.1) ∨
  (128 ≤ x.1 ∧ x.2 = encodeRune x.1 ∧ 2 ≤ x.2.length ∧ (x.1 < 55296 ∨ 57344 ≤ x.1) ∧ x.1 ≤ 1114111) ∨
  (x.1 = 65533 ∧ ∃ b : UInt8, x.2 = [b] ∧ 128 ≤ b.toNat)

theorem good_head (l : List UInt8) (hl : l ≠ []) : GoodTok ((decodeL l).1, l.take (decodeL l).2) := by
  have hp : 0 < l.length := List.length_pos_iff.2 hl
  by_cases hv : (decodeL l).1 = 65533 ∧ (decodeL l).2 = 1
  · right; right
    refine ⟨hv.1, l.getD 0 0, by rw [hv.2, takeA l hp], ?_⟩
    have hv1 := hv.1
    rw [decodeL_N] at hv1
    have k0 := (l.getD 0 0).toNat_lt
    by_cases hb : (l.getD 0 0).toNat < 128
    · unfold decodeN at hv1; rw [if_pos hb] at hv1; simp only at hv1; omega
    · omega
  · have he := encode_decode l hl hv
    rw [decodeL_N] at he hv ⊢
    have k0 := (l.getD 0 0).toNat_lt
    rcases decodeN_shape l.length (l.getD 0 0).toNat (l.getD 1 0).toNat (l.getD 2 0).toNat (l.getD 3 0).toNat with ⟨c, e⟩ | ⟨c1, c2, c3, cv, e⟩ | ⟨c1, c2, c3, c4, cv, cs, e⟩ | ⟨c1, c2, c3, c4, c5, cv, cw, e⟩ | e
    · rw [e] at he hv ⊢
      left
      exact ⟨c, l.getD 0 0, by rw [takeA l hp], rfl⟩
    · rw [e] at he hv ⊢
      right; left
      dsimp only at he ⊢
      exact ⟨cv, he.symm, by rw [List.length_take]; omega, by omega, by omega⟩
    · rw [e] at he hv ⊢
      right; left
      dsimp only at he ⊢
      exact ⟨by omega, he.symm, by rw [List.length_take]; omega, by omega, by omega⟩
    · rw [e] at he hv ⊢
      right; left
      dsimp only at he ⊢
      exact ⟨by omega, he.symm, by rw [List.length_take]; omega, by omega, by omega⟩
    · rw [e] at hv
      exact absurd ⟨rfl, rfl⟩ hv

theorem toks_good (l : List UInt8) : ∀ x ∈ toks l, GoodTok x := by
  induction l using toks_ind with
  | h0 => intro x hx; cases hx
  | h1 l hl ih =>
    intro x hx
    rw [toks_step l hl] at hx
    rcases List.mem_cons.1 hx with rfl | hx
    · exact good_head l hl
    · exact ih x hx
end Go.Proofs.YtbblgnbafecdmaaGreatDoor
