/- Escaping, byte by byte and rune by rune. No program in this text. -/
import Derived.Test.YtpabackkapgkpaaGreatDoorPlain
import Derived.Test.YtpabackkapgkpaaGreatDoorBuild
namespace Go.Proofs.YtpabackkapgkpaaGreatDoor
open Go.Lib

def escByte (b : UInt8) : List UInt8 :=
  if b = 38 then [38, 97, 109, 112, 59] else if b = 60 then [38, 108, 116, 59] else if b = 62 then [38, 103, 116, 59] else if b = 34 then [38, 113, 117, 111, 116, 59] else if b = 0 then [] else [b]
def escL (l : List UInt8) : List UInt8 := l.flatMap escByte

theorem escL_append (a b : List UInt8) : escL (a ++ b) = escL a ++ escL b := by simp [escL]
theorem escL_length (l : List UInt8) : (escL l).length ≤ 6 * l.length := by
  induction l with
  | nil => simp [escL]
  | cons b l ih =>
    have : escL (b :: l) = escByte b ++ escL l := by simp [escL]
    rw [this, List.length_append, List.length_cons]
    have h : (escByte b).length ≤ 6 := by unfold escByte; (repeat' split) <;> simp
    omega

/-- a rune that is no sign of HTML stays as it is -/
theorem escL_high (t : List UInt8) (h : ∀ b ∈ t, 128 ≤ b.toNat) : escL t = t := by
  induction t with
  | nil => rfl
  | cons b t ih =>
    have hb := h b (List.mem_cons_self ..)
    have : escByte b = [b] := by
      unfold escByte
      have n1 : b ≠ 38 := by rintro rfl; simp at hb
      have n2 : b ≠ 60 := by rintro rfl; simp at hb
      have n3 : b ≠ 62 := by rintro rfl; simp at hb
      have n4 : b ≠ 34 := by rintro rfl; simp at hb
      have n5 : b ≠ 0 := by rintro rfl; simp at hb
      simp [n1, n2, n3, n4, n5]
    show escByte b ++ escL t = _
    rw [this, ih (fun c hc => h c (List.mem_cons_of_mem _ hc))]; rfl

theorem enc_high (r : Nat) (h : 128 ≤ r) : ∀ b ∈ encodeRune r, 128 ≤ b.toNat := by
  intro b hb
  unfold encodeRune at hb
  obtain ⟨x, hx, rfl⟩ := List.mem_map.1 hb
  have hr := encodeRuneZ_byte r x hx
  have : 128 ≤ x := by
    unfold encodeRuneZ at hx
    repeat' split at hx
    all_goals simp at hx
    all_goals omega
  simp; omega

theorem good_high {x : Nat × List UInt8} (hx : GoodTok x) (h : 128 ≤ x.1) : ∀ b ∈ x.2, 128 ≤ b.toNat := by
  rcases hx with ⟨h1, -⟩ | ⟨-, e, -⟩ | ⟨-, b, e, hb⟩
  · omega
  · rw [e]; exact enc_high x.1 h
  · rw [e]; intro c hc; simp at hc; subst hc; exact hb

theorem good_low {x : Nat × List UInt8} (hx : GoodTok x) (h : x.1 < 128) : ∃ b : UInt8, x.2 = [b] ∧ b.toNat = x.1 := by
  rcases hx with ⟨-, h⟩ | ⟨h1, -⟩ | ⟨h1, -⟩
  · exact h
  · omega
  · omega

/-- what the rune in front comes to -/
def escRune (r : Nat) : Option (List UInt8) :=
  if r = 38 then some [38, 97, 109, 112, 59] else if r = 60 then some [38, 108, 116, 59] else if r = 62 then some [38, 103, 116, 59] else if r = 34 then some [38, 113, 117, 111, 116, 59] else if r = 0 then some [] else none

theorem escTok_some {x : Nat × List UInt8} (hx : GoodTok x) {t : List UInt8} (h : escRune x.1 = some t) : escL x.2 = t ∧ x.2.length = 1 := by
  have hr : x.1 < 128 := by
    unfold escRune at h
    repeat' split at h
    all_goals first | omega | cases h
  obtain ⟨b, e, hb⟩ := good_low hx hr
  have hbn : b = UInt8.ofNat x.1 := by rw [← hb]; simp
  rw [e]
  refine ⟨?_, rfl⟩
  show escByte b ++ [] = t
  rw [List.append_nil]
  unfold escRune at h
  repeat' split at h
  all_goals first | cases h | skip
  all_goals (rename_i hh; rw [hbn, hh]; decide)

theorem escTok_none {x : Nat × List UInt8} (hx : GoodTok x) (h : escRune x.1 = none) : escL x.2 = x.2 := by
  by_cases hr : x.1 < 128
  · obtain ⟨b, e, hb⟩ := good_low hx hr
    rw [e]
    show escByte b ++ [] = [b]
    rw [List.append_nil]
    have key : ∀ n : Fin 256, escRune n.val = none → escByte (UInt8.ofNat n.val) = [UInt8.ofNat n.val] := by decide +kernel
    have := key ⟨b.toNat, b.toNat_lt⟩ (by rw [← hb] at h; exact h)
    simpa using this
  · exact escL_high _ (good_high hx (by omega))

theorem take_more (l : List UInt8) (p n : Nat) : l.take (p + n) = l.take p ++ (l.drop p).take n := by rw [List.take_add]

theorem escRune_cases (r : Nat) :
    (r = 38 ∧ escRune r = some [38, 97, 109, 112, 59]) ∨ (r = 60 ∧ escRune r = some [38, 108, 116, 59]) ∨ (r = 62 ∧ escRune r = some [38, 103, 116, 59]) ∨ (r = 34 ∧ escRune r = some [38, 113, 117, 111, 116, 59]) ∨ (r = 0 ∧ escRune r = some []) ∨
    (((r : Int) == 38) = false ∧ ((r : Int) == 60) = false ∧ ((r : Int) == 62) = false ∧ ((r : Int) == 34) = false ∧ ((r : Int) == 0) = false ∧ escRune r = none) := by
  by_cases h1 : r = 38
  · exact .inl ⟨h1, by rw [h1]; rfl⟩
  by_cases h2 : r = 60
  · exact .inr (.inl ⟨h2, by rw [h2]; rfl⟩)
  by_cases h3 : r = 62
  · exact .inr (.inr (.inl ⟨h3, by rw [h3]; rfl⟩))
  by_cases h4 : r = 34
  · exact .inr (.inr (.inr (.inl ⟨h4, by rw [h4]; rfl⟩)))
  by_cases h5 : r = 0
  · exact .inr (.inr (.inr (.inr (.inl ⟨h5, by rw [h5]; rfl⟩))))
  refine .inr (.inr (.inr (.inr (.inr ⟨?_, ?_, ?_, ?_, ?_, by simp [escRune, h1, h2, h3, h4, h5]⟩))))
  all_goals simp; omega

/-- a special rune: what the round makes of what was gathered -/
theorem esc_step_some {L acc : List UInt8} {frm pos r n : Nat} {t : List UInt8} (hA : acc ++ (L.take pos).drop frm = escL (L.take pos)) (hg : GoodTok (r, (L.drop pos).take n)) (he : escRune r = some t) (hn : pos + n ≤ L.length) :
    n = 1 ∧ (acc ++ ((L.take pos).drop frm ++ t)) ++ (L.take (pos + n)).drop (pos + 1) = escL (L.take (pos + n)) := by
  obtain ⟨h1, h2⟩ := escTok_some hg he
  have hn1 : n = 1 := by
    simp only [List.length_take, List.length_drop] at h2
    omega
  refine ⟨hn1, ?_⟩
  subst hn1
  have e : (L.take (pos + 1)).drop (pos + 1) = [] := List.drop_of_length_le (by rw [List.length_take]; omega)
  have e2 : escL (L.take (pos + 1)) = escL (L.take pos) ++ t := by rw [take_more, escL_append]; exact congrArg _ h1
  rw [e, e2, ← hA, List.append_nil, List.append_assoc]

theorem esc_step_none {L acc : List UInt8} {frm pos r n : Nat} (hA : acc ++ (L.take pos).drop frm = escL (L.take pos)) (hg : GoodTok (r, (L.drop pos).take n)) (he : escRune r = none) (hf : frm ≤ pos) (hp : pos ≤ L.length) :
    acc ++ (L.take (pos + n)).drop frm = escL (L.take (pos + n)) := by
  have h1 := escTok_none hg he
  rw [take_more, escL_append, h1, ← hA, List.drop_append_of_le_length (by rw [List.length_take]; omega), List.append_assoc]
end Go.Proofs.YtpabackkapgkpaaGreatDoor
