/- What the reference's Entity answers, in plain words: the same as entity.At. No walk in this text. -/
import Derived.Test.YtnehpclbflnpaaaDoorEntLaws
namespace Go.Proofs.YtnehpclbflnpaaaDoor
open Go.RowKit Go.Lib

/-- does a text begin with & name ; -/
def hitB (l n : List UInt8) : Bool := Lib.hasPrefix l (38 :: (n ++ [59]))
theorem hit_iff {l n : List UInt8} : hitB l n = true ↔ ∃ r, l = 38 :: (n ++ 59 :: r) := by
  unfold hitB
  rw [show (Lib.hasPrefix l (38 :: (n ++ [59])) = true) ↔ (38 :: (n ++ [59])) <+: l by simp [Lib.hasPrefix]]
  constructor
  · rintro ⟨r, hr⟩
    exact ⟨r, by rw [← hr]; simp⟩
  · rintro ⟨r, rfl⟩
    exact ⟨r, by simp⟩
theorem hit_at {l n : List UInt8} (hn : n ∈ namesL) (h : hitB l n = true) : atR l = ((namedR n).1, n.length + 2) := by
  obtain ⟨r, rfl⟩ := hit_iff.1 h
  exact (at_named hn r).1
theorem nohit_at {l : List UInt8} (h : ∀ n ∈ namesL, hitB l n = false) (h2 : Lib.hasPrefix l [38, 35] = false) : atR l = ([], 0) := by
  rcases l with _ | ⟨x, l⟩
  · decide +kernel
  by_cases hx : x = 38
  · subst hx
    rcases l with _ | ⟨a, t⟩
    · decide +kernel
    · have ha : a ≠ 35 := by
        rintro rfl
        rw [pre_cons, pre_cons, pre_nil] at h2
        simp at h2
      rw [at_name ha]
      unfold nameAtR
      rcases cut_cases (a :: t) 59 with ⟨e, -⟩ | ⟨n, b, e1, hn, e⟩
      · rw [e, if_pos rfl]
      · rw [e, if_neg (by simp)]
        by_cases hm : n ∈ namesL
        · have := h n hm
          rw [hit_iff.2 ⟨b, by rw [e1]⟩] at this
          cases this
        · rw [if_pos (by rw [named_no hm])]
  · unfold atR
    rw [if_pos]
    rw [pre_cons, pre_nil]
    simp
    exact fun e => hx e.symm

/-- how many digits the reference takes, and what comes of them -/
def refK (base : Int) (most : Nat) (d : List UInt8) : Nat := min (digN base d) most
def numRef (base : Int) (most ahead : Nat) (l : List UInt8) : List UInt8 × Nat :=
  if refK base most (l.drop ahead) = 0 ∨ (l.drop ahead)[refK base most (l.drop ahead)]? ≠ some 59 then ([], 0)
  else (runeText (valB base ((l.drop ahead).take (refK base most (l.drop ahead)))), ahead + refK base most (l.drop ahead) + 1)
theorem dig_59 {base : Int} : isDig base 59 = false := by unfold isDig hexVal; simp
theorem digN_lt {base : Int} {l : List UInt8} {k : Nat} (h : k < digN base l) : ∃ b, l[k]? = some b ∧ isDig base b = true := by
  have hk : k < l.length := Nat.lt_of_lt_of_le h (digN_le base l)
  refine ⟨l[k], List.getElem?_eq_getElem hk, digN_all base l _ ?_⟩
  exact List.mem_take_iff_getElem.2 ⟨k, by omega, rfl⟩
theorem numR_no3 {base : Int} {most : Nat} {d : List UInt8} (h : most < digN base d ∨ digN base d = 0 ∨ d[digN base d]? ≠ some 59) : numR base most d = ([], 0) := by unfold numR numL; rw [if_pos h]
theorem numR_ok3 {base : Int} {most : Nat} {d : List UInt8} (h : ¬ (most < digN base d ∨ digN base d = 0 ∨ d[digN base d]? ≠ some 59)) : numR base most d = (runeText (valB base (d.take (digN base d))), digN base d) := by unfold numR numL; rw [if_neg h]
theorem numRef_eq {base : Int} {most ahead : Nat} (l : List UInt8) : numRef base most ahead l = numAtR base most ahead l := by
  unfold numRef numAtR refK
  generalize l.drop ahead = d
  by_cases hd : digN base d ≤ most
  · rw [Nat.min_eq_left hd]
    by_cases h0 : digN base d = 0
    · rw [numR_no3 (.inr (.inl h0)), if_pos (.inl h0), if_pos rfl]
    · by_cases h59 : d[digN base d]? = some 59
      · rw [numR_ok3 (by simp [h0, h59]; omega), if_neg (by simp [h0, h59]), if_neg h0]
      · rw [numR_no3 (.inr (.inr h59)), if_pos (.inr h59), if_pos rfl]
  · rw [Nat.min_eq_right (by omega), numR_no3 (.inl (by omega)), if_pos rfl]
    obtain ⟨b, hb, hdig⟩ := digN_lt (base := base) (l := d) (k := most) (by omega)
    rw [if_pos]
    right
    rw [hb]
    intro e
    cases e
    rw [dig_59] at hdig
    cases hdig
theorem numRef_short {base : Int} {most ahead : Nat} {l : List UInt8} (h : l.length < ahead + 2) : numRef base most ahead l = ([], 0) := by
  unfold numRef
  rw [if_pos]
  by_cases h0 : refK base most (l.drop ahead) = 0
  · exact .inl h0
  · right
    rw [List.getElem?_eq_none (by rw [List.length_drop]; omega)]
    simp
/-- a number's entity -/
theorem num_at {l : List UInt8} (h : Lib.hasPrefix l [38, 35] = true) : atR l = if (l[2]? = some 120 ∨ l[2]? = some 88) then numRef 16 6 3 l else numRef 10 7 2 l := by
  obtain ⟨r, rfl⟩ : ∃ r, l = 38 :: 35 :: r := by
    rcases l with _ | ⟨x, _ | ⟨y, r⟩⟩
    · cases h
    · rw [pre_cons] at h
      simp [Lib.hasPrefix] at h
    · rw [pre_cons, pre_cons, pre_nil] at h
      simp at h
      exact ⟨r, by rw [← h.1, ← h.2]⟩
  rw [numRef_eq, numRef_eq]
  unfold atR isHex
  rw [behind_amp, pre_cons, pre_nil, pre_cons, pre_cons, pre_cons, pre_nil]
  rcases r with _ | ⟨x, r⟩
  · simp [Lib.hasPrefix]
  · rw [pre_cons, pre_cons, pre_nil]
    by_cases h1 : x = 120
    · subst h1; simp
    · by_cases h2 : x = 88
      · subst h2; simp
      · have e1 : ((120 : UInt8) == x) = false := by rw [beq_eq_false_iff_ne]; exact fun e => h1 e.symm
        have e2 : ((88 : UInt8) == x) = false := by rw [beq_eq_false_iff_ne]; exact fun e => h2 e.symm
        simp [e1, e2, h1, h2]
theorem amp_names (n : List UInt8) (hn : n ∈ namesL) (l : List UInt8) (h : Lib.hasPrefix l [38, 35] = true) : hitB l n = false := by
  rw [← Bool.not_eq_true, hit_iff]
  rintro ⟨r, rfl⟩
  obtain ⟨-, -, -, -, -, a, t, e, h2, -⟩ := names_form n hn
  rw [e, List.cons_append, pre_cons, pre_cons] at h
  simp at h
  exact h2 h.1.symm
end Go.Proofs.YtnehpclbflnpaaaDoor
