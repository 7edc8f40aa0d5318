/- bowdlerref14.Digits and bowdlerref1.At: the walks. -/
import Derived.Test.YtbblgnbafecdmaaGreatDoorItoa
import Derived.Test.YtbblgnbafecdmaaGreatDoorRow
import Derived.Test.YtbblgnbafecdmaaGreatDoorBuild
import Derived.Laws.BytesArg
import Derived.WalkKit
import Derived.WalkLawsBesides
import Derived.WalkSpells
import Derived.Lib.Hide
namespace Go.Proofs.YtbblgnbafecdmaaGreatDoor
open Go.RowKit Go.Lib

theorem conv_b1 : ∀ (w : World) (z : Int), (convert 81 9 (.slice (some ⟨w.heap.size, 0, none⟩) 1 1)).run Tryz.prog (w.alloc (.cells #[.int .u8 z] 5)) = .ok (.string (strOfNums [z])) (w.alloc (.cells #[.int .u8 z] 5)) := by
  intro w z
  refine run_convert_bytes_arg _ _ 5 Tryz.underlying81 Tryz.underlying5 w.heap.size 0 1 1 [z] rfl (fun i hi => ?_) _ Tryz.underlying9
  obtain rfl : i = 0 := by omega
  simp
/-- digits written so far, of n; z is left -/
def DigSt (n z : Nat) (d : List UInt8) : Prop := (z = 0 ∧ d = decDigits n) ∨ (0 < z ∧ decDigits z ++ d = decDigits n) ∨ (n = 0 ∧ z = 0 ∧ d = [])
theorem DigSt.start (n : Nat) : DigSt n n [] := by
  rcases Nat.eq_zero_or_pos n with h | h
  · exact .inr (.inr ⟨h, h, rfl⟩)
  · exact .inr (.inl ⟨h, List.append_nil _⟩)
theorem DigSt.next {n z : Nat} {d : List UInt8} (h : DigSt n z d) (hgo : 0 < z ∨ d = []) : DigSt n (z / 10) (UInt8.ofNat (48 + z % 10) :: d) := by
  rcases h with ⟨h1, h2⟩ | ⟨h1, h2⟩ | ⟨h1, h2, h3⟩
  · exfalso
    rcases hgo with hg | hg
    · omega
    · rw [hg] at h2
      have h3 := (valD_dec n).1
      rw [← h2] at h3
      have h4 : n = 0 := by simpa [valD] using h3.symm
      rw [h4, decDigits] at h2
      simp at h2
  · rw [decDigits] at h2
    by_cases h10 : z < 10
    · rw [dif_pos h10] at h2
      refine .inl ⟨by omega, ?_⟩
      rw [← h2, Nat.mod_eq_of_lt h10]; rfl
    · rw [dif_neg h10] at h2
      refine .inr (.inl ⟨by omega, ?_⟩)
      rw [← h2, List.append_assoc]; rfl
  · subst h1 h2 h3
    refine .inl ⟨rfl, ?_⟩
    rw [decDigits]
    rfl
theorem DigSt.done {n : Nat} {d : List UInt8} (h : DigSt n 0 d) (hd : d ≠ []) : d = decDigits n := by
  rcases h with ⟨-, h⟩ | ⟨h, -⟩ | ⟨-, -, h⟩
  · exact h
  · omega
  · exact absurd h hd
theorem digs_byte (m : Nat) (D : ByteArray) : (strOfNums [48 + (m : Int) % 10] ++ D).data.toList = UInt8.ofNat (48 + m % 10) :: D.data.toList := by
  have : (48 + (m : Int) % 10).toNat = 48 + m % 10 := by omega
  simp [strOfNums, this]

theorem DigSt.len {n z : Nat} {d : List UInt8} (h : DigSt n z d) (hn : n ≤ 4611686018427387904) : d.length ≤ 21 := by
  have h9 := Lib.itoa_length_le (n : Int) (by omega) (by omega)
  rw [itoa_nonneg] at h9
  rcases h with ⟨-, h⟩ | ⟨-, h⟩ | ⟨-, -, h⟩
  · rw [h]; exact h9
  · rw [← h, List.length_append] at h9; omega
  · rw [h]; simp

set_option maxRecDepth 100000 in
set_option maxHeartbeats 1000000 in
theorem digits_nat {w0 w : World} (n : Nat) (hn : n ≤ 4611686018427387904) (h : Below w0.heap.size w0 w) :
    Calls Tryz.prog 22 #[.int .i64 n] w fun e w' => e = .returned (.string ⟨(Lib.itoa (n : Int)).toArray⟩) ∧ Below w0.heap.size w0 w' := by
  have hconv := conv_b1
  have hone : ∀ z : Int, (strOfNums [z]).size = 1 := fun z => rfl
  have hn9 : (n : Int) ≤ 4611686018427387904 := by omega
  go_enter Tryz.func22, Tryz.ntmps22
  go_wp2_with fail
  go_loopw [3, 4] (fun s v wr => ∃ (D : ByteArray) (z : Nat), s = .string D ∧ v = .int .i64 z ∧ (z : Int) ≤ 4611686018427387904 ∧ Hid (DigSt n z D.data.toList) ∧ Below w0.heap.size w0 wr) (fun s v _ => (RowKit.intOf v).toNat + (match s with | .string D => if D.size = 0 then 1 else 0 | _ => 0))
  case atStart => exact ⟨_, n, rfl, rfl, hn9, Lib.hid (DigSt.start n), h⟩
  case round =>
    obtain ⟨D, z, rfl, rfl, hz9, hD, hB⟩ := hrel
    have hDs : D.size ≤ 21 := by rw [ba_size]; exact hD.out.len hn
    have hz0 : 0 ≤ (z : Int) := by omega
    have hm0 : 0 ≤ (z : Int) % 10 := by omega
    have hm1 : (z : Int) % 10 < 10 := by omega
    by_cases hz : z = 0
    · by_cases hd : D.size = 0
      · have b2 : D.toList.isEmpty = true := by rw [Lib.toList_data, List.isEmpty_iff_length_eq_zero, ← ba_size]; exact hd
        have hd0 : D.data.toList = [] := List.eq_nil_of_length_eq_zero (by rw [← ba_size]; exact hd)
        have hN := Lib.hid (hD.out.next (.inr hd0))
        have hNb := Lib.hid (digs_byte z D)
        subst hz
        replace hd0 := Lib.hid hd0
        replace hd := Lib.hid hd
        go_wp2_with fail
        go_roundw
        case rel => exact ⟨_, 0, rfl, rfl, by omega, Lib.hid (by have := hN.out; rw [← hNb.out] at this; exact this), hB.alloc hB.size _⟩
        case measure =>
          have h2 : ¬ (strOfNums [48] ++ D).size = 0 := by rw [ByteArray.size_append, hone]; omega
          simp only [RowKit.intOf, if_neg h2, if_pos hd.out]
          omega
      · have b2 : D.toList.isEmpty = false := by rw [Lib.toList_data]; cases hq : D.data.toList with | nil => exact absurd (by rw [ba_size, hq]; rfl) hd | cons a l => rfl
        have hd0 : D.data.toList ≠ [] := fun e => hd (by rw [ba_size, e]; rfl)
        subst hz
        have hfin := Lib.hid (hD.out.done hd0)
        replace hd0 := Lib.hid hd0
        have f0 : decide ((n : Int) < 0) = false := by simp only [decide_eq_false_iff_not]; omega
        go_wp2_with fail
        go_ret
        refine ⟨?_, hB⟩
        rw [itoa_nonneg, ← hfin.out]; rfl
    · have b1 : ((z : Int) != 0) = true := by rw [bne_iff_ne]; omega
      have b3 : decide ((z : Int) % 10 < 0) = false := by simp only [decide_eq_false_iff_not]; omega
      have hN := Lib.hid (hD.out.next (.inl (by omega)))
      have hNb := Lib.hid (digs_byte z D)
      go_wp2_with fail
      go_roundw
      case rel => exact ⟨_, z / 10, rfl, by go_num, by omega, Lib.hid (by have := hN.out; rw [← hNb.out] at this; exact this), hB.alloc hB.size _⟩
      case measure =>
        have h2 : ¬ (strOfNums [48 + (z : Int) % 10] ++ D).size = 0 := by rw [ByteArray.size_append, hone]; omega
        simp only [RowKit.intOf, if_neg h2]
        omega
end Go.Proofs.YtbblgnbafecdmaaGreatDoor
