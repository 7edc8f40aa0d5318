/- EntityLengths: the walk. -/
import Derived.Test.YtnehpclbflnpaaaDoorPlainWalk
namespace Go.Proofs.YtnehpclbflnpaaaDoor
open Go.RowKit Go.Lib

theorem ba_append (a b : ByteArray) : (a ++ b).data.toList = a.data.toList ++ b.data.toList := by simp
theorem lenS_succ (hx : Bool) (k : Nat) : lenS hx (k + 1) = lenS hx k ++ [48] := by
  unfold lenS
  rw [List.append_assoc, List.replicate_succ']
set_option maxRecDepth 100000 in
set_option maxHeartbeats 2000000 in
theorem entityLengths_in (n : Nat) (hx : Bool) (w : World) (hT : Tabs w) (hn : n < 13) :
    Calls Tryd.prog 7 #[.int .i64 n, .bool hx] w fun e w' => e = .returned (.bool true) ∧ Below w.heap.size w w' := by
  have ha := fun w => @alive_any w
  have f0 : decide ((n : Int) < 0) = false := by simp only [decide_eq_false_iff_not]; omega
  have f1 : decide ((12 : Int) < n) = false := by simp only [decide_eq_false_iff_not]; omega
  obtain ⟨l1, l2, l3⟩ := at_lens hx n hn
  have HT := Lib.hid hT
  clear hT
  obtain ⟨M, hM⟩ : ∃ M, atR (lenS hx n ++ [59]) = M := ⟨_, rfl⟩
  obtain ⟨Z, hZ⟩ : ∃ Z, atR (lenS hx n) = Z := ⟨_, rfl⟩
  rw [hM] at l1 l2
  rw [hZ] at l3
  obtain ⟨M1, m⟩ := M
  obtain ⟨Z1, z⟩ := Z
  dsimp only at l1 l2 l3
  subst l3
  cases hx with
  | true =>
    go_enter Tryd.func7, Tryd.ntmps7
    go_wp2_with fail
    refine (ha _ HT.out).mono ?_
    rintro e w1 ⟨rfl, hb1⟩
    have HB1 := Lib.hid hb1
    have HT1 := Lib.hid (HT.out.on hb1)
    clear hb1
    go_wp2_with fail
    go_loop [5, 7] (fun s i => ∃ (S : ByteArray) (k : Nat), k ≤ n ∧ s = .string S ∧ i = .int .i64 k ∧ Hid (S.data.toList = lenS true k)) (fun _ i => n - (RowKit.intOf i).toNat)
    case atStart => exact ⟨_, 0, Nat.zero_le _, rfl, rfl, Lib.hid rfl⟩
    case round =>
      obtain ⟨S, k, hk, rfl, rfl, hS⟩ := hrel
      by_cases hlt : k < n
      · have hSb : S.size ≤ 20 := by rw [ba_size, hS.out]; simp [lenS]; omega
        go_wp2_with fail
        go_round
        case rel =>
          refine ⟨_, k + 1, by omega, rfl, by go_num, Lib.hid ?_⟩
          rw [lenS_succ, ← hS.out, ba_append]
        case measure => simp only [RowKit.intOf]; omega
      · obtain rfl : k = n := by omega
        have hSl : (lenS true k).length = S.size := by rw [ba_size, hS.out]
        have hSn : S.size = k + 3 := by rw [← hSl]; simp [lenS]
        replace hSl := Lib.hid hSl
        replace hSn := Lib.hid hSn
        have hSb : S.size ≤ 15 := by rw [hSn.out]; omega
        have c1 := fun w => at_list (w := w) (S ++ ⟨#[59]⟩) _ _ (by rw [ba_append, hS.out]) hM (by rw [List.length_append, hSl.out]; simp; omega)
        have c2 := fun w => at_list (w := w) S _ _ hS.out hZ (by rw [hSl.out]; omega)
        dsimp only at c1 c2
        rw [hSl.out] at l2
        replace l2 := Lib.hid l2
        go_wp2_with fail
        refine (c1 _ HT1.out).mono ?_
        rintro e w2 ⟨rfl, hb2⟩
        have HT2 := Lib.hid (HT1.out.on hb2)
        have HB2 := Lib.hid (HB1.out.trans (hb2.mono HB1.out.size))
        clear hb2
        go_wp2_with fail
        refine (c2 _ HT2.out).mono ?_
        rintro e w3 ⟨rfl, hb3⟩
        have HB3 := Lib.hid (HB2.out.trans (hb3.mono HB2.out.size))
        clear hb3 c1 c2
        have hcase : (m = 0 ∧ k = 0) ∨ (m = 0 ∧ 6 < k) ∨ (m = S.size + 1 ∧ 1 ≤ k ∧ k ≤ 6) := by
          rcases l2.out with h | h
          · rw [h] at l1
            simp at l1
            omega
          · rw [h] at l1
            simp at l1
            right; right
            exact ⟨h, by omega⟩
        clear l1
        rcases hcase with ⟨rfl, rfl⟩ | ⟨rfl, h9⟩ | ⟨hm9, h8, h9⟩
        · go_wp2_with fail
          go_ret
          exact ⟨rfl, HB3.out⟩
        · have b1 : decide ((k : Int) ≤ 6) = false := by simp only [decide_eq_false_iff_not]; omega
          have b2 : decide ((1 : Int) ≤ k) = true := by simp only [decide_eq_true_eq]; omega
          go_wp2_with fail
          go_ret
          exact ⟨rfl, HB3.out⟩
        · have b1 : decide ((k : Int) ≤ 6) = true := by simp only [decide_eq_true_eq]; omega
          have b2 : decide ((1 : Int) ≤ k) = true := by simp only [decide_eq_true_eq]; omega
          have b3 : 0 < m := by omega
          have b4 : ((m : Int) == 0) = false := by rw [beq_eq_false_iff_ne]; omega
          have b5 : ((m : Int) == S.size + 1) = true := by rw [beq_iff_eq]; omega
          replace hm9 := Lib.hid hm9
          go_wp2_with fail
          go_ret
          exact ⟨rfl, HB3.out⟩
  | false =>
    go_enter Tryd.func7, Tryd.ntmps7
    go_wp2_with fail
    refine (ha _ HT.out).mono ?_
    rintro e w1 ⟨rfl, hb1⟩
    have HB1 := Lib.hid hb1
    have HT1 := Lib.hid (HT.out.on hb1)
    clear hb1
    go_wp2_with fail
    go_loop [5, 7] (fun s i => ∃ (S : ByteArray) (k : Nat), k ≤ n ∧ s = .string S ∧ i = .int .i64 k ∧ Hid (S.data.toList = lenS false k)) (fun _ i => n - (RowKit.intOf i).toNat)
    case atStart => exact ⟨_, 0, Nat.zero_le _, rfl, rfl, Lib.hid rfl⟩
    case round =>
      obtain ⟨S, k, hk, rfl, rfl, hS⟩ := hrel
      by_cases hlt : k < n
      · have hSb : S.size ≤ 20 := by rw [ba_size, hS.out]; simp [lenS]; omega
        go_wp2_with fail
        go_round
        case rel =>
          refine ⟨_, k + 1, by omega, rfl, by go_num, Lib.hid ?_⟩
          rw [lenS_succ, ← hS.out, ba_append]
        case measure => simp only [RowKit.intOf]; omega
      · obtain rfl : k = n := by omega
        have hSl : (lenS false k).length = S.size := by rw [ba_size, hS.out]
        have hSn : S.size = k + 2 := by rw [← hSl]; simp [lenS]
        replace hSl := Lib.hid hSl
        replace hSn := Lib.hid hSn
        have hSb : S.size ≤ 15 := by rw [hSn.out]; omega
        have c1 := fun w => at_list (w := w) (S ++ ⟨#[59]⟩) _ _ (by rw [ba_append, hS.out]) hM (by rw [List.length_append, hSl.out]; simp; omega)
        have c2 := fun w => at_list (w := w) S _ _ hS.out hZ (by rw [hSl.out]; omega)
        dsimp only at c1 c2
        rw [hSl.out] at l2
        replace l2 := Lib.hid l2
        go_wp2_with fail
        refine (c1 _ HT1.out).mono ?_
        rintro e w2 ⟨rfl, hb2⟩
        have HT2 := Lib.hid (HT1.out.on hb2)
        have HB2 := Lib.hid (HB1.out.trans (hb2.mono HB1.out.size))
        clear hb2
        go_wp2_with fail
        refine (c2 _ HT2.out).mono ?_
        rintro e w3 ⟨rfl, hb3⟩
        have HB3 := Lib.hid (HB2.out.trans (hb3.mono HB2.out.size))
        clear hb3 c1 c2
        have hcase : (m = 0 ∧ k = 0) ∨ (m = 0 ∧ 7 < k) ∨ (m = S.size + 1 ∧ 1 ≤ k ∧ k ≤ 7) := by
          rcases l2.out with h | h
          · rw [h] at l1
            simp at l1
            omega
          · rw [h] at l1
            simp at l1
            right; right
            exact ⟨h, by omega⟩
        clear l1
        rcases hcase with ⟨rfl, rfl⟩ | ⟨rfl, h9⟩ | ⟨hm9, h8, h9⟩
        · go_wp2_with fail
          go_ret
          exact ⟨rfl, HB3.out⟩
        · have b1 : decide ((k : Int) ≤ 7) = false := by simp only [decide_eq_false_iff_not]; omega
          have b2 : decide ((1 : Int) ≤ k) = true := by simp only [decide_eq_true_eq]; omega
          go_wp2_with fail
          go_ret
          exact ⟨rfl, HB3.out⟩
        · have b1 : decide ((k : Int) ≤ 7) = true := by simp only [decide_eq_true_eq]; omega
          have b2 : decide ((1 : Int) ≤ k) = true := by simp only [decide_eq_true_eq]; omega
          have b3 : 0 < m := by omega
          have b4 : ((m : Int) == 0) = false := by rw [beq_eq_false_iff_ne]; omega
          have b5 : ((m : Int) == S.size + 1) = true := by rw [beq_iff_eq]; omega
          replace hm9 := Lib.hid hm9
          go_wp2_with fail
          go_ret
          exact ⟨rfl, HB3.out⟩

set_option maxRecDepth 100000 in
set_option maxHeartbeats 1000000 in
theorem entityLengths_walk (k : Int) (hx : Bool) (w : World) (hT : Tabs w) (hk : -9223372036854775808 ≤ k ∧ k ≤ 9223372036854775807) :
    Calls Tryd.prog 7 #[.int .i64 k, .bool hx] w fun e w' => e = .returned (.bool true) ∧ Below w.heap.size w w' := by
  by_cases h : 0 ≤ k ∧ k ≤ 12
  · obtain ⟨n, rfl⟩ := Int.eq_ofNat_of_zero_le h.1
    exact entityLengths_in n hx w hT (by omega)
  · have ha := fun w => @alive_any w
    have HT := Lib.hid hT
    clear hT
    by_cases h0 : k < 0
    · have f0 : decide (k < 0) = true := by simp only [decide_eq_true_eq]; omega
      clear h hk h0
      go_enter Tryd.func7, Tryd.ntmps7
      go_wp2_with fail
      refine (ha _ HT.out).mono ?_
      rintro e w1 ⟨rfl, hb1⟩
      go_wp2_with fail
      go_ret
      exact ⟨rfl, hb1⟩
    · have f0 : decide (k < 0) = false := by simp only [decide_eq_false_iff_not]; omega
      have f1 : decide (12 < k) = true := by simp only [decide_eq_true_eq]; omega
      clear h hk h0
      go_enter Tryd.func7, Tryd.ntmps7
      go_wp2_with fail
      refine (ha _ HT.out).mono ?_
      rintro e w1 ⟨rfl, hb1⟩
      go_wp2_with fail
      go_ret
      exact ⟨rfl, hb1⟩
end Go.Proofs.YtnehpclbflnpaaaDoor
