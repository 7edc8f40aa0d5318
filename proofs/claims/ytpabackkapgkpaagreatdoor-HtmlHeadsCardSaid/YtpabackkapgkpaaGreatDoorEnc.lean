/- target.Encode: the walk. -/
import Derived.Test.YtpabackkapgkpaaGreatDoorEsc
import Derived.StillTailTactics
namespace Go.Proofs.YtpabackkapgkpaaGreatDoor
open Go.RowKit Go.Lib

def stayL : List UInt8 := [45, 46, 95, 126, 58, 47, 63, 35, 64, 33, 36, 38, 39, 40, 41, 42, 43, 44, 59, 61, 37]
def hexD (n : Nat) : UInt8 := if n < 10 then UInt8.ofNat (48 + n) else UInt8.ofNat (55 + n)
def digitB (b : UInt8) : Bool := 48 ≤ b && b ≤ 57
def letterB (b : UInt8) : Bool := (97 ≤ b && b ≤ 122) || (65 ≤ b && b ≤ 90)
def encByte (b : UInt8) : List UInt8 := if digitB b || letterB b || stayL.contains b then [b] else [37, hexD (b.toNat / 16), hexD (b.toNat % 16)]
def encL (l : List UInt8) : List UInt8 := l.flatMap encByte

theorem encL_append (a b : List UInt8) : encL (a ++ b) = encL a ++ encL b := by simp [encL]
theorem encL_length (l : List UInt8) : (encL l).length ≤ 3 * l.length := by
  induction l with
  | nil => simp [encL]
  | cons b l ih =>
    have : encL (b :: l) = encByte b ++ encL l := by simp [encL]
    rw [this, List.length_append, List.length_cons]
    have h : (encByte b).length ≤ 3 := by unfold encByte; split <;> simp
    omega
theorem encL_next (l : List UInt8) (k : Nat) (h : k < l.length) : encL (l.take (k + 1)) = encL (l.take k) ++ encByte l[k] := by
  rw [List.take_succ_eq_append_getElem h, encL_append]; simp [encL]

def idxStay (b : UInt8) : Int := Lib.indexByte [45, 46, 95, 126, 58, 47, 63, 35, 64, 33, 36, 38, 39, 40, 41, 42, 43, 44, 59, 61, 37] b
def orB (b : UInt8) : Int := bits BinOp.or IntKind.u8 (b.toNat : Int) 32

theorem enc_class_fin : ∀ n : Fin 256, (48 ≤ n.val ∧ n.val ≤ 57 ∧ encByte (UInt8.ofNat n.val) = [UInt8.ofNat n.val]) ∨ (57 < n.val ∧ 97 ≤ orB (UInt8.ofNat n.val) ∧ orB (UInt8.ofNat n.val) ≤ 122 ∧ encByte (UInt8.ofNat n.val) = [UInt8.ofNat n.val]) ∨
    ((n.val < 48 ∨ 57 < n.val) ∧ (orB (UInt8.ofNat n.val) < 97 ∨ 122 < orB (UInt8.ofNat n.val)) ∧ ((0 ≤ idxStay (UInt8.ofNat n.val) ∧ encByte (UInt8.ofNat n.val) = [UInt8.ofNat n.val]) ∨ (idxStay (UInt8.ofNat n.val) < 0 ∧ encByte (UInt8.ofNat n.val) = [37, hexD (n.val / 16), hexD (n.val % 16)]))) := by decide +kernel

theorem enc_class (b : UInt8) : (48 ≤ (b.toNat : Int) ∧ (b.toNat : Int) ≤ 57 ∧ encByte b = [b]) ∨ (57 < (b.toNat : Int) ∧ 48 ≤ (b.toNat : Int) ∧ 97 ≤ bits BinOp.or IntKind.u8 (b.toNat : Int) 32 ∧ bits BinOp.or IntKind.u8 (b.toNat : Int) 32 ≤ 122 ∧ encByte b = [b]) ∨
    (((b.toNat : Int) < 48 ∨ 57 < (b.toNat : Int)) ∧ (bits BinOp.or IntKind.u8 (b.toNat : Int) 32 < 97 ∨ 122 < bits BinOp.or IntKind.u8 (b.toNat : Int) 32) ∧ ((0 ≤ Lib.indexByte [45, 46, 95, 126, 58, 47, 63, 35, 64, 33, 36, 38, 39, 40, 41, 42, 43, 44, 59, 61, 37] b ∧ encByte b = [b]) ∨ (Lib.indexByte [45, 46, 95, 126, 58, 47, 63, 35, 64, 33, 36, 38, 39, 40, 41, 42, 43, 44, 59, 61, 37] b < 0 ∧ encByte b = [37, hexD (b.toNat / 16), hexD (b.toNat % 16)]))) := by
  have h := enc_class_fin ⟨b.toNat, b.toNat_lt⟩
  simp only [UInt8.ofNat_toNat] at h
  rcases h with ⟨h1, h2, h3⟩ | ⟨h1, h2, h3, h4⟩ | ⟨h1, h2, h3⟩
  · exact .inl ⟨by omega, by omega, h3⟩
  · exact .inr (.inl ⟨by omega, by omega, h2, h3, h4⟩)
  · exact .inr (.inr ⟨by omega, h2, h3⟩)

theorem and15_fin : ∀ n : Fin 256, bits BinOp.and IntKind.u8 (n.val : Int) 15 = (n.val : Int) % 16 := by decide +kernel
theorem and15 (b : UInt8) : bits BinOp.and IntKind.u8 (b.toNat : Int) 15 = (b.toNat : Int) % 16 := and15_fin ⟨b.toNat, b.toNat_lt⟩
theorem hex_fin : ∀ n : Fin 256, ((#[48, 49, 50, 51, 52, 53, 54, 55, 56, 57, 65, 66, 67, 68, 69, 70] : Array UInt8).toList.drop (n.val / 16)).take 1 = [hexD (n.val / 16)] ∧ ((#[48, 49, 50, 51, 52, 53, 54, 55, 56, 57, 65, 66, 67, 68, 69, 70] : Array UInt8).toList.drop (n.val % 16)).take 1 = [hexD (n.val % 16)] := by decide +kernel
theorem hex_hi (b : UInt8) : ByteArray.extract ⟨#[48, 49, 50, 51, 52, 53, 54, 55, 56, 57, 65, 66, 67, 68, 69, 70]⟩ ((b.toNat : Int) / 16).toNat ((b.toNat : Int) / 16 + 1).toNat = ⟨#[hexD (b.toNat / 16)]⟩ := by
  have h := (hex_fin ⟨b.toNat, b.toNat_lt⟩).1
  have e1 : ((b.toNat : Int) / 16).toNat = b.toNat / 16 := by omega
  have e2 : ((b.toNat : Int) / 16 + 1).toNat = b.toNat / 16 + 1 := by omega
  rw [e1, e2]
  apply ba_eq
  rw [ba_extract, List.drop_take, Nat.add_sub_cancel_left]
  exact h
theorem hex_lo (b : UInt8) : ByteArray.extract ⟨#[48, 49, 50, 51, 52, 53, 54, 55, 56, 57, 65, 66, 67, 68, 69, 70]⟩ ((b.toNat : Int) % 16).toNat ((b.toNat : Int) % 16 + 1).toNat = ⟨#[hexD (b.toNat % 16)]⟩ := by
  have h := (hex_fin ⟨b.toNat, b.toNat_lt⟩).2
  have e1 : ((b.toNat : Int) % 16).toNat = b.toNat % 16 := by omega
  have e2 : ((b.toNat : Int) % 16 + 1).toNat = b.toNat % 16 + 1 := by omega
  rw [e1, e2]
  apply ba_eq
  rw [ba_extract, List.drop_take, Nat.add_sub_cancel_left]
  exact h
theorem u8_in {i : Int} (h0 : 0 ≤ i) (h1 : i < 256) : IntKind.u8.wrap i = i := by rw [IntKind.wrap_u8]; omega

set_option maxHeartbeats 4000000 in
set_option maxRecDepth 100000 in
theorem encode_from {w0 w : World} (s : ByteArray) (h : Below w0.heap.size w0 w) (hs : s.size ≤ 1000000) :
    Calls Tryz.prog 45 #[.string s] w fun e w' => e = .returned (.string ⟨(encL s.data.toList).toArray⟩) ∧ Below w0.heap.size w0 w' := by
  have hsz0 := h.size
  go_enter Tryz.func45, Tryz.ntmps45
  go_wp2_with fail
  go_loopw [8] (fun vi wr => ∃ k : Nat, k ≤ s.size ∧ vi = .int .i64 k ∧ Holds w.heap.size (encL (s.data.toList.take k)) wr ∧ Below w0.heap.size w0 wr ∧ w.heap.size < wr.heap.size) (fun vi _ => s.size - (RowKit.intOf vi).toNat)
  case atStart => exact ⟨0, Nat.zero_le _, rfl, Holds.fresh w, h.alloc hsz0 _, by simp⟩
  case round =>
    obtain ⟨k, hk, rfl, hH, hB, hsz⟩ := hrel
    by_cases hlt : k < s.size
    · have hl1 := encL_length (s.data.toList.take k)
      rw [List.length_take, ← ba_size] at hl1
      have hl2 : (encL (s.data.toList.take k)).length ≤ 3000000 := by omega
      have hnx := encL_next s.data.toList k (by rw [← ba_size]; exact hlt)
      have hcs : s.data.toList[k]'(by rw [← ba_size]; exact hlt) = s[k] := by simp [ByteArray.getElem_eq_getElem_data]
      rw [hcs] at hnx
      have HN := Lib.hid hnx
      clear hl1 hnx hcs
      have hwle : w.heap.size ≤ wr.heap.size := by omega
      generalize encL (s.data.toList.take k) = L at *
      rcases enc_class s[k] with ⟨h1, h2, he⟩ | ⟨h1, h2, h3, h4, he⟩ | ⟨h1, h2, h3⟩
      · have HE := Lib.hid he
        clear he
        go_wp2_with (first | (go_at_call 28; refine (Tryz.strings_IndexByte _ _ _).mono ?_; rintro e w1 ⟨rfl, rfl⟩) | (go_at_call 53; refine (write_byte hH hwle (by omega)).mono ?_; rintro e W1 ⟨rfl, hw1⟩))
        go_roundw
        case rel => exact ⟨k + 1, by omega, by go_num, by rw [HN.out, HE.out]; exact hw1.holds, hB.trans (hw1.below.mono hsz0), by have := hw1.below.size; omega⟩
        case measure => simp [RowKit.intOf]; omega
      · have HE := Lib.hid he
        clear he
        go_wp2_with (first | (go_at_call 28; refine (Tryz.strings_IndexByte _ _ _).mono ?_; rintro e w1 ⟨rfl, rfl⟩) | (go_at_call 53; refine (write_byte hH hwle (by omega)).mono ?_; rintro e W1 ⟨rfl, hw1⟩))
        go_roundw
        case rel => exact ⟨k + 1, by omega, by go_num, by rw [HN.out, HE.out]; exact hw1.holds, hB.trans (hw1.below.mono hsz0), by have := hw1.below.size; omega⟩
        case measure => simp [RowKit.intOf]; omega
      · rcases h3 with ⟨h3, he⟩ | ⟨h3, he⟩
        · have HE := Lib.hid he
          clear he
          rcases h1 with h1 | h1 <;> rcases h2 with h2 | h2
          · go_wp2_with (first | (go_at_call 28; refine (Tryz.strings_IndexByte _ _ _).mono ?_; rintro e w1 ⟨rfl, rfl⟩) | (go_at_call 53; refine (write_byte hH hwle (by omega)).mono ?_; rintro e W1 ⟨rfl, hw1⟩))
            go_roundw
            case rel => exact ⟨k + 1, by omega, by go_num, by rw [HN.out, HE.out]; exact hw1.holds, hB.trans (hw1.below.mono hsz0), by have := hw1.below.size; omega⟩
            case measure => simp [RowKit.intOf]; omega
          · go_wp2_with (first | (go_at_call 28; refine (Tryz.strings_IndexByte _ _ _).mono ?_; rintro e w1 ⟨rfl, rfl⟩) | (go_at_call 53; refine (write_byte hH hwle (by omega)).mono ?_; rintro e W1 ⟨rfl, hw1⟩))
            go_roundw
            case rel => exact ⟨k + 1, by omega, by go_num, by rw [HN.out, HE.out]; exact hw1.holds, hB.trans (hw1.below.mono hsz0), by have := hw1.below.size; omega⟩
            case measure => simp [RowKit.intOf]; omega
          · go_wp2_with (first | (go_at_call 28; refine (Tryz.strings_IndexByte _ _ _).mono ?_; rintro e w1 ⟨rfl, rfl⟩) | (go_at_call 53; refine (write_byte hH hwle (by omega)).mono ?_; rintro e W1 ⟨rfl, hw1⟩))
            go_roundw
            case rel => exact ⟨k + 1, by omega, by go_num, by rw [HN.out, HE.out]; exact hw1.holds, hB.trans (hw1.below.mono hsz0), by have := hw1.below.size; omega⟩
            case measure => simp [RowKit.intOf]; omega
          · go_wp2_with (first | (go_at_call 28; refine (Tryz.strings_IndexByte _ _ _).mono ?_; rintro e w1 ⟨rfl, rfl⟩) | (go_at_call 53; refine (write_byte hH hwle (by omega)).mono ?_; rintro e W1 ⟨rfl, hw1⟩))
            go_roundw
            case rel => exact ⟨k + 1, by omega, by go_num, by rw [HN.out, HE.out]; exact hw1.holds, hB.trans (hw1.below.mono hsz0), by have := hw1.below.size; omega⟩
            case measure => simp [RowKit.intOf]; omega
        · have HE := Lib.hid he
          clear he
          rcases h1 with h1 | h1 <;> rcases h2 with h2 | h2
          · go_wp2_with (first | (go_at_call 28; refine (Tryz.strings_IndexByte _ _ _).mono ?_; rintro e w1 ⟨rfl, hww⟩; subst hww))
            have e1 : IntKind.u8.wrap ((s[k].toNat : Int) / 16 + 1) = (s[k].toNat : Int) / 16 + 1 := u8_in (by omega) (by have := s[k].toNat_lt; omega)
            have e2 : (s[k].toNat : Int) / 16 + 1 ≤ 16 := by have := s[k].toNat_lt; omega
            have e3 : 0 ≤ (s[k].toNat : Int) / 16 := by omega
            have e3' : 0 ≤ (s[k].toNat : Int) / 16 + 1 := by omega
            have e3'' : (s[k].toNat : Int) / 16 ≤ (s[k].toNat : Int) / 16 + 1 := by omega
            have e4 : bits BinOp.and IntKind.u8 (s[k].toNat : Int) 15 = (s[k].toNat : Int) % 16 := and15 _
            have e5 : IntKind.u8.wrap ((s[k].toNat : Int) % 16 + 1) = (s[k].toNat : Int) % 16 + 1 := u8_in (by omega) (by omega)
            have e6 : (s[k].toNat : Int) % 16 + 1 ≤ 16 := by omega
            have e7 : 0 ≤ (s[k].toNat : Int) % 16 := by omega
            have e7' : 0 ≤ (s[k].toNat : Int) % 16 + 1 := by omega
            have e7'' : (s[k].toNat : Int) % 16 ≤ (s[k].toNat : Int) % 16 + 1 := by omega
            refine wp_region_still_tail 14 (by kernel_rfl) (by kernel_rfl) ?_
            simp only [List.take_succ_cons, List.take_zero, List.drop_succ_cons, List.drop_zero]
            repeat still_step
            generalize hX : ByteArray.extract _ ((s[k].toNat : Int) / 16).toNat _ = X
            have hX1 : X = ⟨#[hexD (s[k].toNat / 16)]⟩ := by rw [← hX]; exact hex_hi _
            have hXs : X.size = 1 := by rw [hX1]; rfl
            have hXl : 1 + X.size ≤ 9223372036854775807 := by omega
            clear hX
            repeat still_step
            generalize hY : ByteArray.extract _ ((s[k].toNat : Int) % 16).toNat _ = Y
            have hY1 : Y = ⟨#[hexD (s[k].toNat % 16)]⟩ := by rw [← hY]; exact hex_lo _
            have hYs : Y.size = 1 := by rw [hY1]; rfl
            have hYl : 1 + X.size + Y.size ≤ 9223372036854775807 := by omega
            clear hY
            repeat still_step
            refine wpStill_nil ?_
            clear e1 e2 e3 e4 e5 e6 e7 e3' e3'' e7' e7'' hXs hYs hXl hYl
            have hHd : Holds w.heap.size L w1.drew := hH
            have hBd := hB.drew
            have hwd : w.heap.size ≤ w1.drew.heap.size := hwle
            change wpList _ _ _ _ _ w1.drew
            go_wp2_with fail
            refine (write_str (t := [37, hexD (s[k].toNat / 16), hexD (s[k].toNat % 16)]) hHd hwd (by first | (rw [ba_append, ba_append]; done) | (rw [ba_append, ba_append]; rfl) | simp) (by simp; omega)).mono ?_
            rintro e W1 ⟨rfl, hw1⟩
            go_wp2_with fail
            go_roundw
            case rel => exact ⟨k + 1, by omega, by go_num, by rw [HN.out, HE.out]; exact hw1.holds, hBd.trans (hw1.below.mono hsz0), by have := hw1.below.size; have e0 : w1.drew.heap.size = w1.heap.size := rfl; omega⟩
            case measure => simp [RowKit.intOf]; omega
          · go_wp2_with (first | (go_at_call 28; refine (Tryz.strings_IndexByte _ _ _).mono ?_; rintro e w1 ⟨rfl, hww⟩; subst hww))
            have e1 : IntKind.u8.wrap ((s[k].toNat : Int) / 16 + 1) = (s[k].toNat : Int) / 16 + 1 := u8_in (by omega) (by have := s[k].toNat_lt; omega)
            have e2 : (s[k].toNat : Int) / 16 + 1 ≤ 16 := by have := s[k].toNat_lt; omega
            have e3 : 0 ≤ (s[k].toNat : Int) / 16 := by omega
            have e3' : 0 ≤ (s[k].toNat : Int) / 16 + 1 := by omega
            have e3'' : (s[k].toNat : Int) / 16 ≤ (s[k].toNat : Int) / 16 + 1 := by omega
            have e4 : bits BinOp.and IntKind.u8 (s[k].toNat : Int) 15 = (s[k].toNat : Int) % 16 := and15 _
            have e5 : IntKind.u8.wrap ((s[k].toNat : Int) % 16 + 1) = (s[k].toNat : Int) % 16 + 1 := u8_in (by omega) (by omega)
            have e6 : (s[k].toNat : Int) % 16 + 1 ≤ 16 := by omega
            have e7 : 0 ≤ (s[k].toNat : Int) % 16 := by omega
            have e7' : 0 ≤ (s[k].toNat : Int) % 16 + 1 := by omega
            have e7'' : (s[k].toNat : Int) % 16 ≤ (s[k].toNat : Int) % 16 + 1 := by omega
            refine wp_region_still_tail 14 (by kernel_rfl) (by kernel_rfl) ?_
            simp only [List.take_succ_cons, List.take_zero, List.drop_succ_cons, List.drop_zero]
            repeat still_step
            generalize hX : ByteArray.extract _ ((s[k].toNat : Int) / 16).toNat _ = X
            have hX1 : X = ⟨#[hexD (s[k].toNat / 16)]⟩ := by rw [← hX]; exact hex_hi _
            have hXs : X.size = 1 := by rw [hX1]; rfl
            have hXl : 1 + X.size ≤ 9223372036854775807 := by omega
            clear hX
            repeat still_step
            generalize hY : ByteArray.extract _ ((s[k].toNat : Int) % 16).toNat _ = Y
            have hY1 : Y = ⟨#[hexD (s[k].toNat % 16)]⟩ := by rw [← hY]; exact hex_lo _
            have hYs : Y.size = 1 := by rw [hY1]; rfl
            have hYl : 1 + X.size + Y.size ≤ 9223372036854775807 := by omega
            clear hY
            repeat still_step
            refine wpStill_nil ?_
            clear e1 e2 e3 e4 e5 e6 e7 e3' e3'' e7' e7'' hXs hYs hXl hYl
            have hHd : Holds w.heap.size L w1.drew := hH
            have hBd := hB.drew
            have hwd : w.heap.size ≤ w1.drew.heap.size := hwle
            change wpList _ _ _ _ _ w1.drew
            go_wp2_with fail
            refine (write_str (t := [37, hexD (s[k].toNat / 16), hexD (s[k].toNat % 16)]) hHd hwd (by first | (rw [ba_append, ba_append]; done) | (rw [ba_append, ba_append]; rfl) | simp) (by simp; omega)).mono ?_
            rintro e W1 ⟨rfl, hw1⟩
            go_wp2_with fail
            go_roundw
            case rel => exact ⟨k + 1, by omega, by go_num, by rw [HN.out, HE.out]; exact hw1.holds, hBd.trans (hw1.below.mono hsz0), by have := hw1.below.size; have e0 : w1.drew.heap.size = w1.heap.size := rfl; omega⟩
            case measure => simp [RowKit.intOf]; omega
          · go_wp2_with (first | (go_at_call 28; refine (Tryz.strings_IndexByte _ _ _).mono ?_; rintro e w1 ⟨rfl, hww⟩; subst hww))
            have e1 : IntKind.u8.wrap ((s[k].toNat : Int) / 16 + 1) = (s[k].toNat : Int) / 16 + 1 := u8_in (by omega) (by have := s[k].toNat_lt; omega)
            have e2 : (s[k].toNat : Int) / 16 + 1 ≤ 16 := by have := s[k].toNat_lt; omega
            have e3 : 0 ≤ (s[k].toNat : Int) / 16 := by omega
            have e3' : 0 ≤ (s[k].toNat : Int) / 16 + 1 := by omega
            have e3'' : (s[k].toNat : Int) / 16 ≤ (s[k].toNat : Int) / 16 + 1 := by omega
            have e4 : bits BinOp.and IntKind.u8 (s[k].toNat : Int) 15 = (s[k].toNat : Int) % 16 := and15 _
            have e5 : IntKind.u8.wrap ((s[k].toNat : Int) % 16 + 1) = (s[k].toNat : Int) % 16 + 1 := u8_in (by omega) (by omega)
            have e6 : (s[k].toNat : Int) % 16 + 1 ≤ 16 := by omega
            have e7 : 0 ≤ (s[k].toNat : Int) % 16 := by omega
            have e7' : 0 ≤ (s[k].toNat : Int) % 16 + 1 := by omega
            have e7'' : (s[k].toNat : Int) % 16 ≤ (s[k].toNat : Int) % 16 + 1 := by omega
            refine wp_region_still_tail 14 (by kernel_rfl) (by kernel_rfl) ?_
            simp only [List.take_succ_cons, List.take_zero, List.drop_succ_cons, List.drop_zero]
            repeat still_step
            generalize hX : ByteArray.extract _ ((s[k].toNat : Int) / 16).toNat _ = X
            have hX1 : X = ⟨#[hexD (s[k].toNat / 16)]⟩ := by rw [← hX]; exact hex_hi _
            have hXs : X.size = 1 := by rw [hX1]; rfl
            have hXl : 1 + X.size ≤ 9223372036854775807 := by omega
            clear hX
            repeat still_step
            generalize hY : ByteArray.extract _ ((s[k].toNat : Int) % 16).toNat _ = Y
            have hY1 : Y = ⟨#[hexD (s[k].toNat % 16)]⟩ := by rw [← hY]; exact hex_lo _
            have hYs : Y.size = 1 := by rw [hY1]; rfl
            have hYl : 1 + X.size + Y.size ≤ 9223372036854775807 := by omega
            clear hY
            repeat still_step
            refine wpStill_nil ?_
            clear e1 e2 e3 e4 e5 e6 e7 e3' e3'' e7' e7'' hXs hYs hXl hYl
            have hHd : Holds w.heap.size L w1.drew := hH
            have hBd := hB.drew
            have hwd : w.heap.size ≤ w1.drew.heap.size := hwle
            change wpList _ _ _ _ _ w1.drew
            go_wp2_with fail
            refine (write_str (t := [37, hexD (s[k].toNat / 16), hexD (s[k].toNat % 16)]) hHd hwd (by first | (rw [ba_append, ba_append]; done) | (rw [ba_append, ba_append]; rfl) | simp) (by simp; omega)).mono ?_
            rintro e W1 ⟨rfl, hw1⟩
            go_wp2_with fail
            go_roundw
            case rel => exact ⟨k + 1, by omega, by go_num, by rw [HN.out, HE.out]; exact hw1.holds, hBd.trans (hw1.below.mono hsz0), by have := hw1.below.size; have e0 : w1.drew.heap.size = w1.heap.size := rfl; omega⟩
            case measure => simp [RowKit.intOf]; omega
          · go_wp2_with (first | (go_at_call 28; refine (Tryz.strings_IndexByte _ _ _).mono ?_; rintro e w1 ⟨rfl, hww⟩; subst hww))
            have e1 : IntKind.u8.wrap ((s[k].toNat : Int) / 16 + 1) = (s[k].toNat : Int) / 16 + 1 := u8_in (by omega) (by have := s[k].toNat_lt; omega)
            have e2 : (s[k].toNat : Int) / 16 + 1 ≤ 16 := by have := s[k].toNat_lt; omega
            have e3 : 0 ≤ (s[k].toNat : Int) / 16 := by omega
            have e3' : 0 ≤ (s[k].toNat : Int) / 16 + 1 := by omega
            have e3'' : (s[k].toNat : Int) / 16 ≤ (s[k].toNat : Int) / 16 + 1 := by omega
            have e4 : bits BinOp.and IntKind.u8 (s[k].toNat : Int) 15 = (s[k].toNat : Int) % 16 := and15 _
            have e5 : IntKind.u8.wrap ((s[k].toNat : Int) % 16 + 1) = (s[k].toNat : Int) % 16 + 1 := u8_in (by omega) (by omega)
            have e6 : (s[k].toNat : Int) % 16 + 1 ≤ 16 := by omega
            have e7 : 0 ≤ (s[k].toNat : Int) % 16 := by omega
            have e7' : 0 ≤ (s[k].toNat : Int) % 16 + 1 := by omega
            have e7'' : (s[k].toNat : Int) % 16 ≤ (s[k].toNat : Int) % 16 + 1 := by omega
            refine wp_region_still_tail 14 (by kernel_rfl) (by kernel_rfl) ?_
            simp only [List.take_succ_cons, List.take_zero, List.drop_succ_cons, List.drop_zero]
            repeat still_step
            generalize hX : ByteArray.extract _ ((s[k].toNat : Int) / 16).toNat _ = X
            have hX1 : X = ⟨#[hexD (s[k].toNat / 16)]⟩ := by rw [← hX]; exact hex_hi _
            have hXs : X.size = 1 := by rw [hX1]; rfl
            have hXl : 1 + X.size ≤ 9223372036854775807 := by omega
            clear hX
            repeat still_step
            generalize hY : ByteArray.extract _ ((s[k].toNat : Int) % 16).toNat _ = Y
            have hY1 : Y = ⟨#[hexD (s[k].toNat % 16)]⟩ := by rw [← hY]; exact hex_lo _
            have hYs : Y.size = 1 := by rw [hY1]; rfl
            have hYl : 1 + X.size + Y.size ≤ 9223372036854775807 := by omega
            clear hY
            repeat still_step
            refine wpStill_nil ?_
            clear e1 e2 e3 e4 e5 e6 e7 e3' e3'' e7' e7'' hXs hYs hXl hYl
            have hHd : Holds w.heap.size L w1.drew := hH
            have hBd := hB.drew
            have hwd : w.heap.size ≤ w1.drew.heap.size := hwle
            change wpList _ _ _ _ _ w1.drew
            go_wp2_with fail
            refine (write_str (t := [37, hexD (s[k].toNat / 16), hexD (s[k].toNat % 16)]) hHd hwd (by first | (rw [ba_append, ba_append]; done) | (rw [ba_append, ba_append]; rfl) | simp) (by simp; omega)).mono ?_
            rintro e W1 ⟨rfl, hw1⟩
            go_wp2_with fail
            go_roundw
            case rel => exact ⟨k + 1, by omega, by go_num, by rw [HN.out, HE.out]; exact hw1.holds, hBd.trans (hw1.below.mono hsz0), by have := hw1.below.size; have e0 : w1.drew.heap.size = w1.heap.size := rfl; omega⟩
            case measure => simp [RowKit.intOf]; omega
    · go_wp2_with fail
      refine (read_str hH (by omega)).mono ?_
      rintro e W1 ⟨rfl, hw1⟩
      go_wp2_with fail
      go_ret
      have hk' : k = s.size := by omega
      exact ⟨ret_string (ba_eq (by rw [ba_mk, hk', ba_size, List.take_length])), hB.trans (hw1.below.mono hsz0)⟩
end Go.Proofs.YtpabackkapgkpaaGreatDoor
