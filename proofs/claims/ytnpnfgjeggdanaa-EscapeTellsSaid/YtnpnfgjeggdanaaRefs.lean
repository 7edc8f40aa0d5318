/- The references of escaping: the walks. -/
import Derived.Test.YtnpnfgjeggdanaaRefLaw
import Derived.Outline
namespace Go.Proofs.Ytnpnfgjeggdanaa
open Go.RowKit Go.Lib

theorem ba_get {s : ByteArray} {k : Nat} (h : k < s.size) : s.data.toList[k]'(by rw [← ba_size]; exact h) = s[k] := by simp [ByteArray.getElem_eq_getElem_data]
theorem ba_one {s : ByteArray} {k : Nat} (h : k < s.size) : (s.extract k (k + 1)).data.toList = [s[k]] := by
  rw [ba_extract, List.take_succ_eq_append_getElem (by rw [← ba_size]; exact h), List.drop_append_of_le_length (by rw [List.length_take, ← ba_size]; omega), List.drop_of_length_le (by rw [List.length_take, ← ba_size]; omega), ba_get h]; rfl

theorem escByte_cases (b : UInt8) :
    (b.toNat = 38 ∧ escByte b = [38, 97, 109, 112, 59]) ∨ (b.toNat = 60 ∧ escByte b = [38, 108, 116, 59]) ∨ (b.toNat = 62 ∧ escByte b = [38, 103, 116, 59]) ∨ (b.toNat = 34 ∧ escByte b = [38, 113, 117, 111, 116, 59]) ∨ (b.toNat = 0 ∧ escByte b = []) ∨
    (((b.toNat : Int) == 38) = false ∧ ((b.toNat : Int) == 60) = false ∧ ((b.toNat : Int) == 62) = false ∧ ((b.toNat : Int) == 34) = false ∧ ((b.toNat : Int) == 0) = false ∧ escByte b = [b]) := by
  have key : ∀ n : Fin 256, (n.val = 38 ∧ escByte (UInt8.ofNat n.val) = [38, 97, 109, 112, 59]) ∨ (n.val = 60 ∧ escByte (UInt8.ofNat n.val) = [38, 108, 116, 59]) ∨ (n.val = 62 ∧ escByte (UInt8.ofNat n.val) = [38, 103, 116, 59]) ∨ (n.val = 34 ∧ escByte (UInt8.ofNat n.val) = [38, 113, 117, 111, 116, 59]) ∨ (n.val = 0 ∧ escByte (UInt8.ofNat n.val) = []) ∨
    (((n.val : Int) == 38) = false ∧ ((n.val : Int) == 60) = false ∧ ((n.val : Int) == 62) = false ∧ ((n.val : Int) == 34) = false ∧ ((n.val : Int) == 0) = false ∧ escByte (UInt8.ofNat n.val) = [UInt8.ofNat n.val]) := by decide +kernel
  have := key ⟨b.toNat, b.toNat_lt⟩
  simpa only [UInt8.ofNat_toNat] using this

set_option maxHeartbeats 1000000 in
theorem esc_ref_any (s : ByteArray) (w : World) (hs : s.size ≤ 1000000) :
    Calls Try.prog 8 #[.string s] w fun e w' => e = .returned (.string ⟨(escL s.data.toList).toArray⟩) ∧ w' = w := by
  go_enter Try.func8, Try.ntmps8
  go_wp2_with fail
  go_loop [3, 4] (fun vo vi => ∃ (k : Nat) (X : ByteArray), k ≤ s.size ∧ vi = .int .i64 k ∧ vo = .string X ∧ X.data.toList = escL (s.data.toList.take k)) (fun _ vi => s.size - (RowKit.intOf vi).toNat)
  case atStart => exact ⟨0, _, Nat.zero_le _, rfl, rfl, rfl⟩
  case round =>
    obtain ⟨k, X, hk, rfl, rfl, hX⟩ := hrel
    have hXl : X.size ≤ 6000000 := by
      have := escL_length (s.data.toList.take k)
      rw [← hX, ← ba_size, List.length_take] at this; omega
    have HX := Lib.hid hX
    clear hX
    by_cases hlt : k < s.size
    · have HN := Lib.hid (escL_next s.data.toList k (by rw [← ba_size]; exact hlt))
      have HG := Lib.hid (ba_get hlt)
      rcases escByte_cases s[k] with ⟨hc, he⟩ | ⟨hc, he⟩ | ⟨hc, he⟩ | ⟨hc, he⟩ | ⟨hc, he⟩ | ⟨n1, n2, n3, n4, n5, he⟩
      all_goals
        have HE := Lib.hid he
        clear he
        go_wp2_with fail
        go_round
        case rel => exact ⟨k + 1, _, by omega, by go_num, rfl, by rw [HN.out, HG.out, HE.out]; first | (rw [ba_append, HX.out]; done) | (rw [ba_append, HX.out]; rfl) | (rw [List.append_nil, HX.out]; done) | (rw [ba_append, HX.out, ba_one hlt]; done)⟩
        case measure => simp [RowKit.intOf]; omega
    · go_wp2_with fail
      go_ret
      refine ⟨ret_string (ba_eq ?_), rfl⟩
      rw [ba_mk, HX.out, List.take_of_length_le (by rw [← ba_size]; omega)]

theorem letterB_int (c : UInt8) : letterB c = (decide (97 ≤ (c.toNat : Int)) && decide ((c.toNat : Int) ≤ 122) || decide (65 ≤ (c.toNat : Int)) && decide ((c.toNat : Int) ≤ 90)) := by
  unfold letterB
  rw [Bool.eq_iff_iff]
  simp [UInt8.le_iff_toNat_le]
  omega
set_option maxHeartbeats 400000 in
theorem letter_any (c : UInt8) (w : World) :
    Calls Try.prog 24 #[.int .u8 c.toNat] w fun e w' => e = .returned (.bool (letterB c)) ∧ w' = w := by
  have HL := Lib.hid (letterB_int c)
  go_enter Try.func24, Try.ntmps24
  go_wp2_with fail
  all_goals go_ret
  all_goals exact ⟨ret_bool (by rw [HL.out]; first | (simp; done) | (simp; omega) | (rw [Bool.eq_iff_iff]; simp only [Bool.or_eq_true, Bool.and_eq_true, decide_eq_true_eq]; omega)), rfl⟩

def rowB (l : List UInt8) (c : UInt8) : Bool := l.contains c
theorem rowB_true {l : List UInt8} {c : UInt8} (h : c ∈ l) : rowB l c = true := List.contains_iff_mem.2 h
theorem rowB_false {l : List UInt8} {c : UInt8} (h : c ∉ l) : rowB l c = false := by
  cases hb : rowB l c with
  | false => rfl
  | true => exact absurd (List.contains_iff_mem.1 hb) h
set_option maxHeartbeats 400000 in
theorem row2_any (s : ByteArray) (c : UInt8) (w : World) (hs : s.size ≤ 1000000) :
    Calls Try.prog 25 #[.string s, .int .u8 c.toNat] w fun e w' => e = .returned (.bool (rowB s.data.toList c)) ∧ w' = w := by
  go_enter Try.func25, Try.ntmps25
  go_wp2_with fail
  go_loop [5] (fun vi => ∃ k : Nat, k ≤ s.size ∧ vi = .int .i64 k ∧ c ∉ s.data.toList.take k) (fun vi => s.size - (RowKit.intOf vi).toNat)
  case atStart => exact ⟨0, Nat.zero_le _, rfl, by simp⟩
  case round =>
    obtain ⟨k, hk, rfl, hN⟩ := hrel
    have HN := Lib.hid hN
    clear hN
    by_cases hlt : k < s.size
    · have HT := Lib.hid (List.take_succ_eq_append_getElem (l := s.data.toList) (i := k) (by rw [← ba_size]; exact hlt))
      have HG := Lib.hid (ba_get hlt)
      by_cases hc : s[k] = c
      · have ht : ((s[k].toNat : Int) == (c.toNat : Int)) = true := by rw [hc]; simp
        have HC := Lib.hid hc
        clear hc
        go_wp2_with fail
        go_ret
        refine ⟨ret_bool (rowB_true ?_).symm, rfl⟩
        have h1 := HG.out
        rw [HC.out] at h1
        rw [← h1]
        exact List.getElem_mem _
      · have ht : ((s[k].toNat : Int) == (c.toNat : Int)) = false := by
          rw [beq_eq_false_iff_ne]; intro h; exact hc (UInt8.toNat_inj.1 (by omega))
        have HC := Lib.hid hc
        clear hc
        go_wp2_with fail
        go_round
        case rel => exact ⟨k + 1, by omega, by go_num, by rw [HT.out, HG.out]; intro h; rcases List.mem_append.1 h with h | h; exact HN.out h; exact HC.out (List.mem_singleton.1 h).symm⟩
        case measure => simp [RowKit.intOf]; omega
    · go_wp2_with fail
      go_ret
      refine ⟨ret_bool (rowB_false ?_).symm, rfl⟩
      have h1 := HN.out
      rw [List.take_of_length_le (by rw [← ba_size]; omega)] at h1
      exact h1

theorem attr_ref_go {E v : ByteArray} {w : World} (hE : E.data.toList = escL v.data.toList) (hv : v.size ≤ 1000000) :
    Calls Try.prog 8 #[.string v] w fun e w' => e = .returned (.string E) ∧ w' = w :=
  (esc_ref_any v w hv).mono fun e w' ⟨he, hw⟩ => ⟨by rw [he]; exact ret_string (ba_eq (by rw [ba_mk, hE])), hw⟩
end Go.Proofs.Ytnpnfgjeggdanaa
