/- number: the walk. -/
import Derived.Test.YtnehpclbflnpaaaDoorIndex
namespace Go.Proofs.YtnehpclbflnpaaaDoor
open Go.RowKit Go.Lib

theorem utf8_enc (r : Int) : (Utf8.encode r).data.toList = encodeRune r := by
  unfold Utf8.encode
  by_cases hv : Utf8.valid r = true
  · have hr : (0 ≤ r ∧ r < 55296) ∨ (57344 ≤ r ∧ r ≤ 1114111) := by simpa [Utf8.valid] using hv
    obtain ⟨n, rfl⟩ : ∃ n : Nat, r = n := ⟨r.toNat, by omega⟩
    simp only [hv, if_true, Int.toNat_natCast]
    by_cases h1 : n < 128
    · simp only [h1, if_true]
      unfold encodeRune; rw [encodeRuneZ_one (by omega) (by omega)]
      simp
    have e1 : (192 + (n : Int) / 64).toNat = 192 + n / 64 := by omega
    have e2 : (128 + (n : Int) % 64).toNat = 128 + n % 64 := by omega
    have e3 : (224 + (n : Int) / 4096).toNat = 224 + n / 4096 := by omega
    have e4 : (128 + (n : Int) / 64 % 64).toNat = 128 + n / 64 % 64 := by omega
    have e5 : (240 + (n : Int) / 262144).toNat = 240 + n / 262144 := by omega
    have e6 : (128 + (n : Int) / 4096 % 64).toNat = 128 + n / 4096 % 64 := by omega
    by_cases h2 : n < 2048
    · rw [if_neg h1, if_pos h2]
      unfold encodeRune; rw [encodeRuneZ_two (by omega) (by omega)]
      simp only [List.map_cons, List.map_nil]
      rw [e1, e2]
    by_cases h3 : n < 65536
    · rw [if_neg h1, if_neg h2, if_pos h3]
      unfold encodeRune; rw [encodeRuneZ_three (by omega)]
      simp only [List.map_cons, List.map_nil]
      rw [e2, e3, e4]
    · rw [if_neg h1, if_neg h2, if_neg h3]
      have e : encodeRuneZ (n : Int) = [240 + (n : Int) / 262144, 128 + (n : Int) / 4096 % 64, 128 + (n : Int) / 64 % 64, 128 + (n : Int) % 64] := by
        unfold encodeRuneZ
        rw [if_neg (by omega), if_neg (by omega), if_neg (by omega), if_pos (by omega)]
      unfold encodeRune; rw [e]
      simp only [List.map_cons, List.map_nil]
      rw [e2, e4, e5, e6]
  · have hr : ¬ ((0 ≤ r ∧ r < 55296) ∨ (57344 ≤ r ∧ r ≤ 1114111)) := by
      intro h; apply hv; simpa [Utf8.valid] using h
    have e : encodeRuneZ r = [239, 191, 189] := by
      unfold encodeRuneZ
      rw [if_neg (by omega), if_neg (by omega), if_neg (by omega), if_neg (by omega)]
    unfold encodeRune; rw [e, if_neg hv]
    decide

def hexList : List UInt8 := [48, 49, 50, 51, 52, 53, 54, 55, 56, 57, 97, 98, 99, 100, 101, 102]
set_option maxRecDepth 100000 in
theorem idx_fin : ∀ r : Fin 128, 0 ≤ bits BinOp.or IntKind.i32 ((r.val : Nat) : Int) 32 ∧ bits BinOp.or IntKind.i32 ((r.val : Nat) : Int) 32 < 128 ∧
    (∀ base ∈ [(10 : Int), 16], (isDig base (UInt8.ofNat r.val) = true → Lib.indexByte hexList (bits BinOp.or IntKind.i32 ((r.val : Nat) : Int) 32).toNat.toUInt8 = hexVal (UInt8.ofNat r.val) ∧ 48 ≤ r.val ∧ r.val ≤ 102 ∧ (r.val ≤ 57 ∨ 65 ≤ r.val)) ∧
      (isDig base (UInt8.ofNat r.val) = false → r.val < 48 ∨ 102 < r.val ∨ (57 < r.val ∧ r.val < 65) ∨ Lib.indexByte hexList (bits BinOp.or IntKind.i32 ((r.val : Nat) : Int) 32).toNat.toUInt8 < 0 ∨ base ≤ Lib.indexByte hexList (bits BinOp.or IntKind.i32 ((r.val : Nat) : Int) 32).toNat.toUInt8)) := by decide

set_option maxRecDepth 100000 in
set_option maxHeartbeats 1000000 in
theorem indexRune_neg (x : Int) (h0 : x < 0) (w : World) :
    Calls Tryd.prog 60 #[.string ⟨#[48, 49, 50, 51, 52, 53, 54, 55, 56, 57, 97, 98, 99, 100, 101, 102]⟩, .int .i32 x] w fun e w' => e = .returned (.int .i64 (-1)) ∧ Below w.heap.size w w' := by
  have h1 : decide (0 ≤ x) = false := by simp; omega
  have hx : (x == 65533) = false := by rw [beq_eq_false_iff_ne]; omega
  have hv : Utf8.valid x = false := by
    cases hq : Utf8.valid x with
    | false => rfl
    | true => have := (valid_iff x).1 hq; omega
  go_enter Tryd.func60, Tryd.ntmps60
  go_wp2_with fail
  refine (validRune_any x _).mono ?_
  rintro e w1 ⟨rfl, hw⟩
  subst w1
  go_wp2_with fail
  go_ret
  exact ⟨rfl, Below.refl _ _⟩

/-- IndexRune on the digits answers something, and leaves all as it was -/
theorem indexRune_some (x : Int) : ∃ d : Int, ∀ w : World, Calls Tryd.prog 60 #[.string ⟨#[48, 49, 50, 51, 52, 53, 54, 55, 56, 57, 97, 98, 99, 100, 101, 102]⟩, .int .i32 x] w fun e w' => e = .returned (.int .i64 d) ∧ Below w.heap.size w w' := by
  by_cases h : 0 ≤ x ∧ x < 128
  · exact ⟨_, fun w => (Tryd.strings_IndexRune_ascii _ x w h.1 h.2).mono fun e w' ⟨he, hw⟩ => ⟨he, by rw [hw]; exact Below.refl _ _⟩⟩
  · refine ⟨-1, fun w => ?_⟩
    by_cases h3 : x = 65533
    · subst h3; exact indexRune_err w
    · by_cases hv : Utf8.valid x = true
      · have hv2 := (valid_iff x).1 hv
        exact indexRune_high x (by omega) hv w (by rw [beq_eq_false_iff_ne]; exact h3)
      · by_cases h0 : 0 ≤ x
        · exact indexRune_bad x (by omega) (by simpa using hv) w (by rw [beq_eq_false_iff_ne]; exact h3)
        · exact indexRune_neg x (by omega) w
theorem indexRune_dig (r : Nat) (hr : r < 128) (w : World) : Calls Tryd.prog 60 #[.string ⟨#[48, 49, 50, 51, 52, 53, 54, 55, 56, 57, 97, 98, 99, 100, 101, 102]⟩, .int .i32 (bits BinOp.or IntKind.i32 (r : Int) 32)] w fun e w' => e = .returned (.int .i64 (Lib.indexByte hexList (bits BinOp.or IntKind.i32 (r : Int) 32).toNat.toUInt8)) ∧ Below w.heap.size w w' :=
  (Tryd.strings_IndexRune_ascii _ _ w (idx_fin ⟨r, hr⟩).1 (idx_fin ⟨r, hr⟩).2.1).mono fun e w' ⟨he, hw⟩ => ⟨he, by rw [hw]; exact Below.refl _ _⟩

def numR (base : Int) (most : Nat) (l : List UInt8) : List UInt8 × Nat := match numL base most l with
  | none => ([], 0)
  | some (v, n) => (runeText v, n)
theorem tok_dec {l : List UInt8} (hne : l ≠ []) {r n : Nat} (hd : decodeL l = (r, n)) (hg : GoodTok (r, l.take n)) (hr : r < 128) : n = 1 ∧ ∃ b, l.head? = some b ∧ r = b.toNat := by
  rcases hg with ⟨-, b, hb, hbr⟩ | ⟨h1, -⟩ | ⟨h1, -⟩
  · dsimp only at hb hbr
    have h1 : (l.take n).length = 1 := by rw [hb]; rfl
    cases l with
    | nil => exact absurd rfl hne
    | cons c l =>
      cases n with
      | zero => simp at h1
      | succ n =>
        have hw := decodeL_le (c :: l) hne
        rw [hd] at hw
        rw [List.length_take] at h1
        simp only [List.take_succ_cons, List.cons.injEq] at hb
        exact ⟨by simp only [List.length_cons] at h1 hw; omega, c, rfl, by rw [hb.1]; exact hbr.symm⟩
  · dsimp only at h1; omega
  · dsimp only at h1; omega
end Go.Proofs.YtnehpclbflnpaaaDoor
