/- The reference of Encode: the walk. -/
import Derived.Test.YtnpnfgjeggdanaaRefs2
import Derived.RegionTactic
import Derived.ChangeAlike
import Derived.BigRegion
namespace Go.Proofs.Ytnpnfgjeggdanaa
open Go.RowKit Go.Lib

theorem encByte_cases (c : UInt8) : (letterB c = true ∧ encByte c = [c]) ∨ (letterB c = false ∧ 48 ≤ (c.toNat : Int) ∧ (c.toNat : Int) ≤ 57 ∧ encByte c = [c]) ∨
    (letterB c = false ∧ ((c.toNat : Int) < 48 ∨ (48 ≤ (c.toNat : Int) ∧ 57 < (c.toNat : Int))) ∧ rowB [45, 46, 95, 126, 58, 47, 63, 35, 64, 33, 36, 38, 39, 40, 41, 42, 43, 44, 59, 61, 37] c = true ∧ encByte c = [c]) ∨
    (letterB c = false ∧ ((c.toNat : Int) < 48 ∨ (48 ≤ (c.toNat : Int) ∧ 57 < (c.toNat : Int))) ∧ rowB [45, 46, 95, 126, 58, 47, 63, 35, 64, 33, 36, 38, 39, 40, 41, 42, 43, 44, 59, 61, 37] c = false ∧ encByte c = [37, hexD (c.toNat / 16), hexD (c.toNat % 16)]) := by
  have key : ∀ n : Fin 256, (letterB (UInt8.ofNat n.val) = true ∧ encByte (UInt8.ofNat n.val) = [(UInt8.ofNat n.val)]) ∨ (letterB (UInt8.ofNat n.val) = false ∧ 48 ≤ (n.val : Int) ∧ (n.val : Int) ≤ 57 ∧ encByte (UInt8.ofNat n.val) = [(UInt8.ofNat n.val)]) ∨
    (letterB (UInt8.ofNat n.val) = false ∧ ((n.val : Int) < 48 ∨ (48 ≤ (n.val : Int) ∧ 57 < (n.val : Int))) ∧ rowB [45, 46, 95, 126, 58, 47, 63, 35, 64, 33, 36, 38, 39, 40, 41, 42, 43, 44, 59, 61, 37] (UInt8.ofNat n.val) = true ∧ encByte (UInt8.ofNat n.val) = [(UInt8.ofNat n.val)]) ∨
    (letterB (UInt8.ofNat n.val) = false ∧ ((n.val : Int) < 48 ∨ (48 ≤ (n.val : Int) ∧ 57 < (n.val : Int))) ∧ rowB [45, 46, 95, 126, 58, 47, 63, 35, 64, 33, 36, 38, 39, 40, 41, 42, 43, 44, 59, 61, 37] (UInt8.ofNat n.val) = false ∧ encByte (UInt8.ofNat n.val) = [37, hexD (n.val / 16), hexD (n.val % 16)]) := by decide +kernel
  have := key ⟨c.toNat, c.toNat_lt⟩
  simpa only [UInt8.ofNat_toNat] using this

def hexLit : ByteArray := ⟨#[48, 49, 50, 51, 52, 53, 54, 55, 56, 57, 65, 66, 67, 68, 69, 70]⟩
theorem hexAt_fin : ∀ n : Fin 16, hexLit.data.toList[n.val]'n.isLt = hexD n.val := by decide +kernel
theorem hexAt (n : Nat) (h : n < 16) : (⟨#[48, 49, 50, 51, 52, 53, 54, 55, 56, 57, 65, 66, 67, 68, 69, 70]⟩ : ByteArray)[n]'h = hexD n := by
  have := hexAt_fin ⟨n, h⟩
  rw [← this]; rfl
theorem conv2d (w : World) (c d : UInt8) :
    (convert 28 9 (.slice (some ⟨w.heap.size, 0, none⟩) 2 2)).run Try.prog (w.alloc (.cells #[.int .u8 c.toNat, .int .u8 d.toNat] 5)).drew = .ok (.string ⟨#[c, d]⟩) (w.alloc (.cells #[.int .u8 c.toNat, .int .u8 d.toNat] 5)).drew :=
  run_convert_bytes_back (P := Try.prog) _ _ _ _ ⟨w.heap.size, 0, none⟩ 2 [c, d] Try.underlying28 Try.underlying5 Try.underlying9 (fun j hj => by
    have : j = 0 ∨ j = 1 := by simp at hj; omega
    rcases this with rfl | rfl
    · show World.cell? (w.alloc _) ⟨w.heap.size, 0, none⟩ = _
      simp only [World.cell?, alloc_new]; rfl
    · show World.cell? (w.alloc _) ⟨w.heap.size, 1, none⟩ = _
      simp only [World.cell?, alloc_new]; rfl)

set_option maxHeartbeats 2000000 in
theorem encode_ref_from {w0 w : World} (s : ByteArray) (h : Below w0.heap.size w0 w) (hs : s.size ≤ 1000000) :
    Calls Try.prog 18 #[.string s] w fun e w' => e = .returned (.string ⟨(encL s.data.toList).toArray⟩) ∧ Below w0.heap.size w0 w' := by
  have hsz0 := h.size
  go_enter Try.func18, Try.ntmps18
  go_wp2_with fail
  go_loopw [5, 6] (fun vt vi wr => ∃ (k : Nat) (X : ByteArray), k ≤ s.size ∧ vi = .int .i64 k ∧ vt = .string X ∧ X.data.toList = encL (s.data.toList.take k) ∧ Below w0.heap.size w0 wr) (fun _ vi _ => s.size - (RowKit.intOf vi).toNat)
  case atStart => exact ⟨0, _, Nat.zero_le _, rfl, rfl, rfl, h⟩
  case round =>
    obtain ⟨k, X, hk, rfl, rfl, hX, hB⟩ := hrel
    have hXl : X.size ≤ 3000000 := by
      have := encL_length (s.data.toList.take k)
      rw [← hX, ← ba_size, List.length_take] at this; omega
    have HX := Lib.hid hX
    clear hX
    have hBs := hB.size
    by_cases hlt : k < s.size
    · have HN := Lib.hid (encL_next s.data.toList k (by rw [← ba_size]; exact hlt))
      have HG := Lib.hid (ba_get hlt)
      have hr2 : ∀ w : World, Calls Try.prog 25 #[.string ⟨#[45, 46, 95, 126, 58, 47, 63, 35, 64, 33, 36, 38, 39, 40, 41, 42, 43, 44, 59, 61, 37]⟩, .int .u8 s[k].toNat] w fun e w' => e = .returned (.bool (rowB [45, 46, 95, 126, 58, 47, 63, 35, 64, 33, 36, 38, 39, 40, 41, 42, 43, 44, 59, 61, 37] s[k])) ∧ w' = w := fun w => row2_any _ _ w (by decide)
      rcases encByte_cases s[k] with ⟨h1, he⟩ | ⟨h1, h2, h3, he⟩ | ⟨h1, h2 | ⟨h2, h3⟩, h4, he⟩ | ⟨h1, h2 | ⟨h2, h3⟩, h4, he⟩
      iterate 4
        · have HE := Lib.hid he
          clear he
          go_wp2_with (first | (go_at_call 24; refine (letter_any _ _).mono ?_; rintro e w1 ⟨rfl, hw⟩; subst w1) | (go_at_call 25; refine (hr2 _).mono ?_; rintro e w1 ⟨rfl, hw⟩; subst w1))
          go_roundw
          case rel => exact ⟨k + 1, _, by omega, by go_num, rfl, by rw [HN.out, HG.out, HE.out, ba_append, HX.out, ba_one hlt], hB⟩
          case measure => simp [RowKit.intOf]; omega
      all_goals
        have HE := Lib.hid he
        clear he
        have d2 : s[k].toNat / 16 < 16 := by have := s[k].toNat_lt; omega
        have d4 : s[k].toNat % 16 < 16 := by omega
        have i1 : 0 ≤ (s[k].toNat : Int) / 16 := by omega
        have i2 : (s[k].toNat : Int) / 16 < 16 := by omega
        have i3 : 0 ≤ (s[k].toNat : Int) % 16 := by omega
        have i4 : (s[k].toNat : Int) % 16 < 16 := by omega
        have hcv := conv2d wr ((⟨#[48, 49, 50, 51, 52, 53, 54, 55, 56, 57, 65, 66, 67, 68, 69, 70]⟩ : ByteArray)[s[k].toNat / 16]'d2) ((⟨#[48, 49, 50, 51, 52, 53, 54, 55, 56, 57, 65, 66, 67, 68, 69, 70]⟩ : ByteArray)[s[k].toNat % 16]'d4)
        go_wp2_with (first | (go_at_call 24; refine (letter_any _ _).mono ?_; rintro e w1 ⟨rfl, hw⟩; subst w1) | (go_at_call 25; refine (hr2 _).mono ?_; rintro e w1 ⟨rfl, hw⟩; subst w1))
        go_region
        all_goals
          go_wp2_with fail
          go_roundw
          case rel => exact ⟨k + 1, _, by omega, by go_num, rfl, by rw [HN.out, HG.out, HE.out, ba_append, ba_append, HX.out, hexAt, hexAt]; simp, (hB.alloc hBs _).drew⟩
          case measure => simp [RowKit.intOf]; omega
    · go_wp2_with fail
      go_ret
      refine ⟨ret_string (ba_eq ?_), hB⟩
      rw [ba_mk, HX.out, List.take_of_length_le (by rw [← ba_size]; omega)]
end Go.Proofs.Ytnpnfgjeggdanaa
