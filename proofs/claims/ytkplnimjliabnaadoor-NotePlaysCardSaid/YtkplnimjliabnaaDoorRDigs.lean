/- bowdlerref14.Digits, Id, Back: the walks. -/
import Derived.Test.YtkplnimjliabnaaDoorIdsLaw
import Derived.Laws.BytesArg
import Derived.WalkKit
import Derived.WalkLawsBesides
import Derived.WalkSpells
import Derived.Lib.Hide
namespace Go.Proofs.YtkplnimjliabnaaDoor
open Go.RowKit Go.Lib

theorem conv_b1 : ∀ (w : World) (z : Int), (convert 76 9 (.slice (some ⟨w.heap.size, 0, none⟩) 1 1)).run Tryd.prog (w.alloc (.cells #[.int .u8 z] 5)) = .ok (.string (strOfNums [z])) (w.alloc (.cells #[.int .u8 z] 5)) := by
  intro w z
  refine run_convert_bytes_arg _ _ 5 Tryd.underlying76 Tryd.underlying5 w.heap.size 0 1 1 [z] rfl (fun i hi => ?_) _ Tryd.underlying9
  obtain rfl : i = 0 := by omega
  simp
/-- digits written so far, of n; z is left -/
def DigSt (n z : Nat) (d : List UInt8) : Prop := (z = 0 ∧ d = decDigits n) ∨ (0 < z ∧ decDigits z ++ d = decDigits n) ∨ (n = 0 ∧ z = 0 ∧ d = [])
theorem DigSt.start (n : Nat) : DigSt n n [] := by
  rcases Nat.eq_zero_or_pos n with h | h
  · exact .inr (.inr ⟨h, h, rfl⟩)
  · exact .inr (.inl ⟨h, List.append_nil _⟩)
theorem DigSt.next {n z : Nat} {d : List UInt8} (h : DigSt n z d) (hgo : 0 < z ∨ d = []) : DigSt n (z / 10) (UInt8.ofNat (48 + z % 10) :: d) := by
  rcases h with ⟨h1, h2⟩ | ⟨h1, h2⟩ | ⟨h1, h2, h3⟩
  · exfalso
    rcases hgo with hg | hg
    · omega
    · rw [hg] at h2
      have h3 := (valD_dec n).1
      rw [← h2] at h3
      have h4 : n = 0 := by simpa [valD] using h3.symm
      rw [h4, decDigits] at h2
      simp at h2
  · rw [decDigits] at h2
    by_cases h10 : z < 10
    · rw [dif_pos h10] at h2
      refine .inl ⟨by omega, ?_⟩
      rw [← h2, Nat.mod_eq_of_lt h10]; rfl
    · rw [dif_neg h10] at h2
      refine .inr (.inl ⟨by omega, ?_⟩)
      rw [← h2, List.append_assoc]; rfl
  · subst h1 h2 h3
    refine .inl ⟨rfl, ?_⟩
    rw [decDigits]
    rfl
theorem DigSt.done {n : Nat} {d : List UInt8} (h : DigSt n 0 d) (hd : d ≠ []) : d = decDigits n := by
  rcases h with ⟨-, h⟩ | ⟨h, -⟩ | ⟨-, -, h⟩
  · exact h
  · omega
  · exact absurd h hd
theorem digs_byte (m : Nat) (D : ByteArray) : (strOfNums [48 + (m : Int) % 10] ++ D).data.toList = UInt8.ofNat (48 + m % 10) :: D.data.toList := by
  have : (48 + (m : Int) % 10).toNat = 48 + m % 10 := by omega
  simp [strOfNums, this]

theorem DigSt.len {n z : Nat} {d : List UInt8} (h : DigSt n z d) (hn : n ≤ 9223372036854775807) : d.length ≤ 21 := by
  have h9 := Lib.itoa_length_le (n : Int) (by omega) (by omega)
  rw [itoa_nonneg] at h9
  rcases h with ⟨-, h⟩ | ⟨-, h⟩ | ⟨-, -, h⟩
  · rw [h]; exact h9
  · rw [← h, List.length_append] at h9; omega
  · rw [h]; simp

set_option maxRecDepth 100000 in
set_option maxHeartbeats 1000000 in
theorem digits_nat {w0 w : World} (n : Nat) (hn : n ≤ 9223372036854775807) (h : Below w0.heap.size w0 w) :
    Calls Tryd.prog 23 #[.int .i64 n] w fun e w' => e = .returned (.string ⟨(Lib.itoa (n : Int)).toArray⟩) ∧ Below w0.heap.size w0 w' := by
  have hconv := conv_b1
  have hone : ∀ z : Int, (strOfNums [z]).size = 1 := fun z => rfl
  have hn9 : (n : Int) ≤ 9223372036854775807 := by omega
  go_enter Tryd.func23, Tryd.ntmps23
  go_wp2_with fail
  go_loopw [3, 4] (fun s v wr => ∃ (D : ByteArray) (z : Nat), s = .string D ∧ v = .int .i64 z ∧ (z : Int) ≤ 9223372036854775807 ∧ Hid (DigSt n z D.data.toList) ∧ Below w0.heap.size w0 wr) (fun s v _ => (RowKit.intOf v).toNat + (match s with | .string D => if D.size = 0 then 1 else 0 | _ => 0))
  case atStart => exact ⟨_, n, rfl, rfl, hn9, Lib.hid (DigSt.start n), h⟩
  case round =>
    obtain ⟨D, z, rfl, rfl, hz9, hD, hB⟩ := hrel
    have hDs : D.size ≤ 21 := by rw [ba_size]; exact hD.out.len hn
    have hz0 : 0 ≤ (z : Int) := by omega
    have hm0 : 0 ≤ (z : Int) % 10 := by omega
    have hm1 : (z : Int) % 10 < 10 := by omega
    by_cases hz : z = 0
    · by_cases hd : D.size = 0
      · have b2 : D.toList.isEmpty = true := by rw [Lib.toList_data, List.isEmpty_iff_length_eq_zero, ← ba_size]; exact hd
        have hd0 : D.data.toList = [] := List.eq_nil_of_length_eq_zero (by rw [← ba_size]; exact hd)
        have hN := Lib.hid (hD.out.next (.inr hd0))
        have hNb := Lib.hid (digs_byte z D)
        subst hz
        replace hd0 := Lib.hid hd0
        replace hd := Lib.hid hd
        go_wp2_with fail
        go_roundw
        case rel => exact ⟨_, 0, rfl, rfl, by omega, Lib.hid (by have := hN.out; rw [← hNb.out] at this; exact this), hB.alloc hB.size _⟩
        case measure =>
          have h2 : ¬ (strOfNums [48] ++ D).size = 0 := by rw [ByteArray.size_append, hone]; omega
          simp only [RowKit.intOf, if_neg h2, if_pos hd.out]
          omega
      · have b2 : D.toList.isEmpty = false := by rw [Lib.toList_data]; cases hq : D.data.toList with | nil => exact absurd (by rw [ba_size, hq]; rfl) hd | cons a l => rfl
        have hd0 : D.data.toList ≠ [] := fun e => hd (by rw [ba_size, e]; rfl)
        subst hz
        have hfin := Lib.hid (hD.out.done hd0)
        replace hd0 := Lib.hid hd0
        have f0 : decide ((n : Int) < 0) = false := by simp only [decide_eq_false_iff_not]; omega
        go_wp2_with fail
        go_ret
        refine ⟨?_, hB⟩
        rw [itoa_nonneg, ← hfin.out]; rfl
    · have b1 : ((z : Int) != 0) = true := by rw [bne_iff_ne]; omega
      have b3 : decide ((z : Int) % 10 < 0) = false := by simp only [decide_eq_false_iff_not]; omega
      have hN := Lib.hid (hD.out.next (.inl (by omega)))
      have hNb := Lib.hid (digs_byte z D)
      go_wp2_with fail
      go_roundw
      case rel => exact ⟨_, z / 10, rfl, by go_num, by omega, Lib.hid (by have := hN.out; rw [← hNb.out] at this; exact this), hB.alloc hB.size _⟩
      case measure =>
        have h2 : ¬ (strOfNums [48 + (z : Int) % 10] ++ D).size = 0 := by rw [ByteArray.size_append, hone]; omega
        simp only [RowKit.intOf, if_neg h2]
        omega

theorem tdiv_neg (z : Nat) : (-(z : Int)).tdiv 10 = -((z / 10 : Nat) : Int) := by
  rw [Int.neg_tdiv, Int.tdiv_eq_ediv_of_nonneg (by omega)]; rfl
theorem tmod_neg (z : Nat) : (-(z : Int)).tmod 10 = -((z : Int) % 10) := by
  rw [Int.neg_tmod, Int.tmod_eq_emod_of_nonneg (by omega)]
theorem itoa_negative (m : Nat) (h : 1 ≤ m) : Lib.itoa (-(m : Int)) = 45 :: decDigits m := by
  unfold Lib.itoa
  rw [if_pos (by omega), Int.natAbs_neg, Int.natAbs_natCast]

set_option maxRecDepth 100000 in
set_option maxHeartbeats 1000000 in
theorem digits_neg {w0 w : World} (n : Nat) (hn1 : 1 ≤ n) (hn : n ≤ 1099511627776) (h : Below w0.heap.size w0 w) :
    Calls Tryd.prog 23 #[.int .i64 (-(n : Int))] w fun e w' => e = .returned (.string ⟨(Lib.itoa (-(n : Int))).toArray⟩) ∧ Below w0.heap.size w0 w' := by
  have hconv := conv_b1
  have hone : ∀ z : Int, (strOfNums [z]).size = 1 := fun z => rfl
  have hn9 : (n : Int) ≤ 1099511627776 := by omega
  go_enter Tryd.func23, Tryd.ntmps23
  go_wp2_with fail
  go_loopw [3, 4] (fun s v wr => ∃ (D : ByteArray) (z : Nat), s = .string D ∧ v = .int .i64 (-(z : Int)) ∧ (z : Int) ≤ 1099511627776 ∧ Hid (DigSt n z D.data.toList) ∧ Below w0.heap.size w0 wr) (fun s v _ => (-(RowKit.intOf v)).toNat + (match s with | .string D => if D.size = 0 then 1 else 0 | _ => 0))
  case atStart => exact ⟨_, n, rfl, rfl, hn9, Lib.hid (DigSt.start n), h⟩
  case round =>
    obtain ⟨D, z, rfl, rfl, hz9, hD, hB⟩ := hrel
    have hDs : D.size ≤ 21 := by rw [ba_size]; exact hD.out.len (by omega)
    have hz0 : 0 ≤ (z : Int) := by omega
    have hm0 : 0 ≤ (z : Int) % 10 := by omega
    have hm1 : (z : Int) % 10 < 10 := by omega
    have q1 := tdiv_neg z
    have q2 := tmod_neg z
    by_cases hz : z = 0
    · have hd0 : D.data.toList ≠ [] := by
        intro e
        rcases hD.out with ⟨h1, h2⟩ | ⟨h1, h2⟩ | ⟨h1, h2, h3⟩
        · rw [e] at h2
          have h3 := (valD_dec n).1
          rw [← h2] at h3
          have h4 : n = 0 := by simpa [valD] using h3.symm
          omega
        · omega
        · omega
      have b2 : D.toList.isEmpty = false := by rw [Lib.toList_data]; cases hq : D.data.toList with | nil => exact absurd hq hd0 | cons a l => rfl
      subst hz
      have hfin := Lib.hid (hD.out.done hd0)
      replace hd0 := Lib.hid hd0
      have f0 : decide (-(n : Int) < 0) = true := by simp only [decide_eq_true_eq]; omega
      have f1 : ((-((0 : Nat) : Int)) != 0) = false := by rfl
      go_wp2_with fail
      go_ret
      refine ⟨?_, hB⟩
      rw [itoa_negative n hn1, ← hfin.out]
      exact ret_string (ba_eq (by rw [ba_append]; rfl))
    · have b1 : ((-(z : Int)) != 0) = true := by rw [bne_iff_ne]; omega
      have hN := Lib.hid (hD.out.next (.inl (by omega)))
      have hNb := Lib.hid (digs_byte z D)
      by_cases hr : (z : Int) % 10 = 0
      · have hNb0 := Lib.hid (show (strOfNums [48] ++ D).data.toList = UInt8.ofNat (48 + z % 10) :: D.data.toList by have := hNb.out; rwa [hr] at this)
        rw [hr] at q2
        have b3 : decide ((-(0 : Int)) < 0) = false := by rfl
        go_wp2_with fail
        go_roundw
        case rel => exact ⟨_, z / 10, rfl, by go_num, by omega, Lib.hid (by have := hN.out; rw [← hNb0.out] at this; exact this), hB.alloc hB.size _⟩
        case measure =>
          have h2 : ¬ (strOfNums [48] ++ D).size = 0 := by rw [ByteArray.size_append, hone]; omega
          simp only [RowKit.intOf, if_neg h2]
          omega
      · have b3 : decide (-((z : Int) % 10) < 0) = true := by simp only [decide_eq_true_eq]; omega
        go_wp2_with fail
        go_roundw
        case rel => exact ⟨_, z / 10, rfl, by go_num, by omega, Lib.hid (by have := hN.out; rw [← hNb.out] at this; exact this), hB.alloc hB.size _⟩
        case measure =>
          have h2 : ¬ (strOfNums [48 + (z : Int) % 10] ++ D).size = 0 := by rw [ByteArray.size_append, hone]; omega
          simp only [RowKit.intOf, if_neg h2]
          omega

theorem digits_from {w0 w : World} (n : Int) (h0 : -1099511627776 ≤ n) (h1 : n ≤ 9223372036854775807) (h : Below w0.heap.size w0 w) :
    Calls Tryd.prog 23 #[.int .i64 n] w fun e w' => e = .returned (.string ⟨(Lib.itoa n).toArray⟩) ∧ Below w0.heap.size w0 w' := by
  rcases Int.le_total 0 n with hs | hs
  · obtain ⟨m, rfl⟩ := Int.eq_ofNat_of_zero_le hs
    exact digits_nat m (by omega) h
  · by_cases hz : n = 0
    · subst hz
      exact digits_nat 0 (by omega) h
    · obtain ⟨m, hm⟩ := Int.eq_ofNat_of_zero_le (show 0 ≤ -n by omega)
      obtain rfl : n = -(m : Int) := by omega
      exact digits_neg m (by omega) (by omega) h
set_option maxHeartbeats 400000 in
theorem rid_from {w0 w : World} (n : Int) (h0 : -1099511627776 ≤ n) (h1 : n ≤ 9223372036854775807) (h : Below w0.heap.size w0 w) {Y : ByteArray} (hY : Y.data.toList = idL n) :
    Calls Tryd.prog 16 #[.int .i64 n] w fun e w' => e = .returned (.string Y) ∧ Below w0.heap.size w0 w' := by
  have hl := itoa_length_le n (by omega) h1
  have HY := Lib.hid hY
  have c1 := fun {w : World} (h : Below w0.heap.size w0 w) => digits_from n h0 h1 h
  obtain ⟨X, hX⟩ : ∃ X : ByteArray, (⟨(Lib.itoa n).toArray⟩ : ByteArray) = X := ⟨_, rfl⟩
  rw [hX] at c1
  have HX := Lib.hid (show X.data.toList = Lib.itoa n by rw [← hX])
  have hXs : X.size ≤ 21 := by rw [ba_size, HX.out]; exact hl
  clear hY hX hl
  go_enter Tryd.func16, Tryd.ntmps16
  go_wp2_with fail
  refine (c1 (by assumption)).mono ?_
  rintro e w1 ⟨rfl, hb1⟩
  go_wp2_with fail
  go_ret
  exact ⟨ret_string (ba_eq (by rw [ba_append, HX.out, HY.out]; rfl)), hb1⟩
set_option maxHeartbeats 400000 in
theorem rback_from {w0 w : World} (n t : Int) (h0 : -1099511627776 ≤ n) (h1 : n ≤ 9223372036854775807) (g0 : -1099511627776 ≤ t) (g1 : t ≤ 9223372036854775807) (h : Below w0.heap.size w0 w) {Y : ByteArray} (hY : Y.data.toList = backL n t) :
    Calls Tryd.prog 17 #[.int .i64 n, .int .i64 t] w fun e w' => e = .returned (.string Y) ∧ Below w0.heap.size w0 w' := by
  have hl := itoa_length_le n (by omega) h1
  have hl2 := itoa_length_le t (by omega) g1
  have HY := Lib.hid hY
  have c1 := fun {w : World} (h : Below w0.heap.size w0 w) => digits_from n h0 h1 h
  have c2 := fun {w : World} (h : Below w0.heap.size w0 w) => digits_from t g0 g1 h
  obtain ⟨X, hX⟩ : ∃ X : ByteArray, (⟨(Lib.itoa n).toArray⟩ : ByteArray) = X := ⟨_, rfl⟩
  obtain ⟨Z, hZ⟩ : ∃ X : ByteArray, (⟨(Lib.itoa t).toArray⟩ : ByteArray) = X := ⟨_, rfl⟩
  rw [hX] at c1
  rw [hZ] at c2
  have HX := Lib.hid (show X.data.toList = Lib.itoa n by rw [← hX])
  have HZ := Lib.hid (show Z.data.toList = Lib.itoa t by rw [← hZ])
  have hXs : X.size ≤ 21 := by rw [ba_size, HX.out]; exact hl
  have hZs : Z.size ≤ 21 := by rw [ba_size, HZ.out]; exact hl2
  clear hY hX hZ hl hl2
  go_enter Tryd.func17, Tryd.ntmps17
  go_wp2_with fail
  refine (c1 (by assumption)).mono ?_
  rintro e w1 ⟨rfl, hb1⟩
  go_wp2_with fail
  refine (c2 (by assumption)).mono ?_
  rintro e w2 ⟨rfl, hb2⟩
  go_wp2_with fail
  go_ret
  exact ⟨ret_string (ba_eq (by rw [ba_append, ba_append, ba_append, HX.out, HZ.out, HY.out]; rfl)), hb2⟩
end Go.Proofs.YtkplnimjliabnaaDoor
