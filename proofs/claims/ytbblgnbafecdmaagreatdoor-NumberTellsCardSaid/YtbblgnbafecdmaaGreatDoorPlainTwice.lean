/- Texts that are made of runes: parted again they are the same runes; what was made text stays so. No program in this text. -/
import Derived.Test.YtbblgnbafecdmaaGreatDoorPlainFold
import Derived.Test.YtbblgnbafecdmaaGreatDoorBuild
namespace Go.Proofs.YtbblgnbafecdmaaGreatDoor
open Go.Lib Go.RowKit

theorem u8_ofNat {n : Nat} (h : n < 256) : (UInt8.ofNat n).toNat = n := by simp; omega

theorem dec_enc (r : Nat) (q : List UInt8) (hv : r < 55296 ∨ 57344 ≤ r) (hm : r ≤ 1114111) : decodeL (encodeRune r ++ q) = (r, (encodeRune r).length) := by
  have e0 : (r : Int).toNat = r := by omega
  have e1 : (192 + (r : Int) / 64).toNat = 192 + r / 64 := by omega
  have e2 : (128 + (r : Int) % 64).toNat = 128 + r % 64 := by omega
  have e3 : (224 + (r : Int) / 4096).toNat = 224 + r / 4096 := by omega
  have e4 : (128 + (r : Int) / 64 % 64).toNat = 128 + r / 64 % 64 := by omega
  have e5 : (240 + (r : Int) / 262144).toNat = 240 + r / 262144 := by omega
  have e6 : (128 + (r : Int) / 4096 % 64).toNat = 128 + r / 4096 % 64 := by omega
  by_cases h1 : r < 128
  · have e : encodeRune r = [UInt8.ofNat r] := by
      unfold encodeRune; rw [encodeRuneZ_one (by omega) (by omega)]
      simp only [List.map_cons, List.map_nil, e0]
    rw [e, List.cons_append, List.nil_append, decodeL_ascii _ _ (by rw [u8_ofNat (by omega)]; exact h1), u8_ofNat (by omega)]; rfl
  by_cases h2 : r < 2048
  · have e : encodeRune r = [UInt8.ofNat (192 + r / 64), UInt8.ofNat (128 + r % 64)] := by
      unfold encodeRune; rw [encodeRuneZ_two (by omega) (by omega)]
      simp only [List.map_cons, List.map_nil, e1, e2]
    rw [e, decodeL_N]
    simp only [List.cons_append, List.nil_append, List.getD_cons_zero, List.getD_cons_succ, List.length_cons]
    rw [u8_ofNat (by omega), u8_ofNat (by omega)]
    unfold decodeN
    rw [if_neg (by omega), if_pos ⟨by omega, by omega, by omega⟩, if_pos (by omega)]
    clear e0 e1 e2 e3 e4 e5 e6 e
    refine Prod.ext ?_ ?_
    · dsimp only; omega
    · rfl
  by_cases h3 : r < 65536
  · have e : encodeRune r = [UInt8.ofNat (224 + r / 4096), UInt8.ofNat (128 + r / 64 % 64), UInt8.ofNat (128 + r % 64)] := by
      unfold encodeRune; rw [encodeRuneZ_three (by omega)]
      simp only [List.map_cons, List.map_nil, e2, e3, e4]
    rw [e, decodeL_N]
    simp only [List.cons_append, List.nil_append, List.getD_cons_zero, List.getD_cons_succ, List.length_cons]
    rw [u8_ofNat (by omega), u8_ofNat (by omega), u8_ofNat (by omega)]
    unfold decodeN
    rw [if_neg (by omega), if_neg (by omega), if_pos ⟨by omega, ⟨by omega, by omega⟩, by omega, by omega⟩, if_pos (by omega)]
    clear e0 e1 e2 e3 e4 e5 e6 e
    refine Prod.ext ?_ ?_
    · dsimp only; omega
    · rfl
  · have e : encodeRune r = [UInt8.ofNat (240 + r / 262144), UInt8.ofNat (128 + r / 4096 % 64), UInt8.ofNat (128 + r / 64 % 64), UInt8.ofNat (128 + r % 64)] := by
      have : encodeRuneZ (r : Int) = [240 + (r : Int) / 262144, 128 + (r : Int) / 4096 % 64, 128 + (r : Int) / 64 % 64, 128 + (r : Int) % 64] := by
        unfold encodeRuneZ
        rw [if_neg (by omega), if_neg (by omega), if_neg (by omega), if_pos (by omega)]
      unfold encodeRune; rw [this]
      simp only [List.map_cons, List.map_nil, e2, e4, e5, e6]
    rw [e, decodeL_N]
    simp only [List.cons_append, List.nil_append, List.getD_cons_zero, List.getD_cons_succ, List.length_cons]
    rw [u8_ofNat (by omega), u8_ofNat (by omega), u8_ofNat (by omega), u8_ofNat (by omega)]
    unfold decodeN
    rw [if_neg (by omega), if_neg (by omega), if_neg (by omega), if_pos ⟨by omega, ⟨by omega, by omega⟩, ⟨by omega, by omega⟩, by omega, by omega⟩, if_pos (by omega)]
    clear e0 e1 e2 e3 e4 e5 e6 e
    refine Prod.ext ?_ ?_
    · dsimp only; omega
    · rfl

/-- a rune with its encoding -/
def VTok (x : Nat × List UInt8) : Prop := x.2 = encodeRune x.1 ∧ (x.1 < 55296 ∨ 57344 ≤ x.1) ∧ x.1 ≤ 1114111
def flat (ts : List (Nat × List UInt8)) : List UInt8 := ts.flatMap (·.2)
theorem flat_cons (x : Nat × List UInt8) (ts : List (Nat × List UInt8)) : flat (x :: ts) = x.2 ++ flat ts := rfl
theorem flat_append (a b : List (Nat × List UInt8)) : flat (a ++ b) = flat a ++ flat b := by simp [flat]

theorem enc_ne (r : Int) : encodeRune r ≠ [] := by
  have h : 1 ≤ (encodeRune r).length := by
    have := Lib.runeCells_le r
    rw [← byteCells_encodeRune, byteCells_length] at this; exact this.1
  intro e; rw [e] at h; simp at h
theorem toks_v {x : Nat × List UInt8} (h : VTok x) (q : List UInt8) : toks (x.2 ++ q) = x :: toks q := by
  obtain ⟨r, t⟩ := x
  obtain ⟨h1, h2, h3⟩ := h
  dsimp only at h1 h2 h3 ⊢
  subst h1
  have hd := dec_enc r q h2 h3
  have hne : encodeRune (r : Int) ++ q ≠ [] := by simp [enc_ne]
  rw [toks_step _ hne, hd, List.take_left', List.drop_left'] <;> rfl
theorem toks_vs (V : List (Nat × List UInt8)) (h : ∀ x ∈ V, VTok x) : toks (flat V) = V := by
  induction V with
  | nil => rfl
  | cons x V ih => rw [flat_cons, toks_v (h x (List.mem_cons_self ..)), ih (fun y hy => h y (List.mem_cons_of_mem _ hy))]

/-- the runes that repair.Text writes for one -/
def textOne (cr : Bool) (r : Nat) : List (Nat × List UInt8) := if r = 0 ∨ r = 65533 then [(65533, badB)] else if r = 13 then [(10, [10])] else if r = 10 ∧ cr = true then [] else [(r, encodeRune r)]
def textV : Bool → List (Nat × List UInt8) → List (Nat × List UInt8)
  | _, [] => []
  | cr, x :: ts => textOne cr x.1 ++ textV (decide (x.1 = 13)) ts
theorem textOne_flat (cr : Bool) (r : Nat) : flat (textOne cr r) = textOut cr r := by
  unfold textOne textOut
  repeat' split
  all_goals simp [flat]
theorem textV_flat (ts : List (Nat × List UInt8)) : ∀ cr, flat (textV cr ts) = textT cr ts := by
  induction ts with
  | nil => intro cr; rfl
  | cons x ts ih => intro cr; simp only [textV, textT, flat_append, textOne_flat, ih]

/-- a rune that repair.Text leaves as it is -/
def Plain (x : Nat × List UInt8) : Prop := VTok x ∧ x.1 ≠ 0 ∧ x.1 ≠ 13
theorem good_valid {x : Nat × List UInt8} (h : GoodTok x) : (x.1 < 55296 ∨ 57344 ≤ x.1) ∧ x.1 ≤ 1114111 := by
  rcases h with ⟨h, -⟩ | ⟨_, _, _, h1, h2⟩ | ⟨h, -⟩ <;> omega
theorem textOne_plain {cr : Bool} {x : Nat × List UInt8} (h : GoodTok x) : ∀ y ∈ textOne cr x.1, Plain y := by
  have hv := good_valid h
  intro y hy
  unfold textOne at hy
  split at hy
  · simp only [List.mem_singleton] at hy; subst hy
    exact ⟨⟨enc_bad.symm, by simp, by simp⟩, by simp, by simp⟩
  · next h1 =>
    split at hy
    · simp only [List.mem_singleton] at hy; subst hy
      exact ⟨⟨by decide, by simp, by simp⟩, by simp, by simp⟩
    · next h2 =>
      split at hy
      · cases hy
      · simp only [List.mem_singleton] at hy; subst hy
        exact ⟨⟨rfl, hv.1, hv.2⟩, by omega, h2⟩
theorem textV_plain (ts : List (Nat × List UInt8)) (hg : ∀ x ∈ ts, GoodTok x) : ∀ cr, ∀ y ∈ textV cr ts, Plain y := by
  induction ts with
  | nil => intro cr y hy; cases hy
  | cons x ts ih =>
    intro cr y hy
    rcases List.mem_append.1 hy with hy | hy
    · exact textOne_plain (hg x (List.mem_cons_self ..)) y hy
    · exact ih (fun z hz => hg z (List.mem_cons_of_mem _ hz)) _ y hy
theorem text_plain (V : List (Nat × List UInt8)) (h : ∀ x ∈ V, Plain x) : textT false V = flat V := by
  induction V with
  | nil => rfl
  | cons x V ih =>
    obtain ⟨hv, h0, h13⟩ := h x (List.mem_cons_self ..)
    have e : decide (x.1 = 13) = false := decide_eq_false h13
    rw [flat_cons]
    simp only [textT]
    rw [e, ih (fun y hy => h y (List.mem_cons_of_mem _ hy))]
    congr 1
    unfold textOut
    by_cases hb : x.1 = 65533
    · rw [if_pos (.inr hb), hv.1, hb]; exact enc_bad.symm
    · rw [if_neg (by omega), if_neg h13, if_neg (by simp), hv.1]
/-- what is made of plain runes stays as it is -/
theorem textF_plain (V : List (Nat × List UInt8)) (h : ∀ x ∈ V, Plain x) : textF (flat V) = flat V := by
  unfold textF
  rw [toks_vs V (fun x hx => (h x hx).1), text_plain V h]
theorem textF_twice (l : List UInt8) : textF (textF l) = textF l := by
  have h := textV_plain (toks l) (toks_good l) false
  have e : textF l = flat (textV false (toks l)) := (textV_flat _ _).symm
  rw [e]; exact textF_plain _ h
theorem plain_bytes {x : Nat × List UInt8} (h : Plain x) : ∀ b ∈ x.2, b.toNat ≠ 0 ∧ b.toNat ≠ 13 := by
  obtain ⟨⟨h1, h2, h3⟩, h0, h13⟩ := h
  rw [h1]
  intro b hb
  by_cases hr : x.1 < 128
  · unfold encodeRune at hb
    rw [encodeRuneZ_one (by omega) (by omega)] at hb
    simp at hb
    subst hb
    simp; omega
  · have := enc_high x.1 (by omega) b hb
    omega
theorem textF_bytes (l : List UInt8) : ∀ b ∈ textF l, b.toNat ≠ 0 ∧ b.toNat ≠ 13 := by
  intro b hb
  have e : textF l = flat (textV false (toks l)) := (textV_flat _ _).symm
  rw [e] at hb
  obtain ⟨x, hx, hbx⟩ := List.mem_flatMap.1 hb
  exact plain_bytes (textV_plain (toks l) (toks_good l) false x hx) b hbx
end Go.Proofs.YtbblgnbafecdmaaGreatDoor
