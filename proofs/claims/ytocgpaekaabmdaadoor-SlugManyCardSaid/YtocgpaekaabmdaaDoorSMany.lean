/- SlugMany: the walk. -/
import Derived.Test.YtocgpaekaabmdaaDoorAlive
import Derived.Test.YtocgpaekaabmdaaDoorSlugLaws
import Derived.Laws.BytesArg
namespace Go.Proofs.YtocgpaekaabmdaaDoor
open Go.RowKit Go.Lib Go.Maps

theorem conv_one : ∀ (w : World) (z : Int), (convert 34 9 (.slice (some ⟨w.heap.size, 0, none⟩) 1 1)).run Tryd.prog (w.alloc (.cells #[.int .u8 z] 5)) = .ok (.string (strOfNums [z])) (w.alloc (.cells #[.int .u8 z] 5)) := by
  intro w z
  refine run_convert_bytes_arg _ _ 5 Tryd.underlying34 Tryd.underlying5 w.heap.size 0 1 1 [z] rfl (fun i hi => ?_) _ Tryd.underlying9
  obtain rfl : i = 0 := by omega
  simp
theorem conv_two : ∀ (w : World) (o : Obj) (z : Int), (convert 34 9 (.slice (some ⟨w.heap.size + 1, 0, none⟩) 1 1)).run Tryd.prog ((w.alloc o).alloc (.cells #[.int .u8 z] 5)) = .ok (.string (strOfNums [z])) ((w.alloc o).alloc (.cells #[.int .u8 z] 5)) := by
  intro w o z
  have h := conv_one (w.alloc o) z
  rwa [show (w.alloc o).heap.size = w.heap.size + 1 by simp] at h
/-- the first candidates, all told -/
def told (f : List UInt8) (k : Nat) : List (List UInt8) := (List.range k).map fun j => cand f (j + 1)
theorem told_len (f : List UInt8) (k : Nat) : (told f k).length = k := by simp [told]
theorem told_succ (f : List UInt8) (k : Nat) : told f (k + 1) = told f k ++ [cand f (k + 1)] := by simp [told, List.range_succ]
theorem told_next (f : List UInt8) (k : Nat) : NextIs (told f k) f (cand f (k + 1)) := by
  refine ⟨k + 1, by omega, rfl, ?_, fun j h1 h2 => ?_⟩
  · intro h
    obtain ⟨j, hj, he⟩ := List.mem_map.1 h
    have := List.mem_range.1 hj
    have := cand_inj (by omega) (by omega) he
    omega
  · exact List.mem_map.2 ⟨j - 1, List.mem_range.2 (by omega), by rw [show j - 1 + 1 = j by omega]⟩
theorem itoa_small : ∀ k : Nat, k < 31 → Lib.itoa (k : Int) = if k < 10 then [UInt8.ofNat (48 + k)] else [UInt8.ofNat (48 + k / 10), UInt8.ofNat (48 + k % 10)] := by decide +kernel
theorem want_one {k : Nat} (h1 : 1 < k) (h2 : k < 10) (X : ByteArray) : (X ++ ⟨#[45]⟩ ++ strOfNums [48 + (k : Int) % 10]).data.toList = cand X.data.toList k := by
  unfold cand
  rw [if_neg (by omega), itoa_small k (by omega), if_pos h2]
  have : (48 + (k : Int) % 10).toNat = 48 + k := by omega
  simp [strOfNums, this]
theorem want_two {k : Nat} (h1 : 10 ≤ k) (h2 : k < 31) (X : ByteArray) : (X ++ ⟨#[45]⟩ ++ strOfNums [48 + (k : Int) / 10] ++ strOfNums [48 + (k : Int) % 10]).data.toList = cand X.data.toList k := by
  unfold cand
  rw [if_neg (by omega), itoa_small k (by omega), if_neg (by omega)]
  have e1 : (48 + (k : Int) % 10).toNat = 48 + k % 10 := by omega
  have e2 : (48 + (k : Int) / 10).toNat = 48 + k / 10 := by omega
  simp [strOfNums, e1, e2]

open Classical in
set_option maxRecDepth 100000 in
set_option maxHeartbeats 4000000 in
theorem many_main (s : ByteArray) (n : Nat) (W : World) (hT : Tabs W) (hs : s.size ≤ 60) (hn0 : 1 ≤ n) (hn1 : n ≤ 30) :
    Calls Tryd.prog 6 #[.string s, .int .i64 n] W fun e w' => e = .returned (.bool true) ∧ Below W.heap.size W w' := by
  have g1 : decide ((60 : Int) < s.size) = false := by simp only [decide_eq_false_iff_not]; omega
  have g2 : decide ((n : Int) < 1) = false := by simp only [decide_eq_false_iff_not]; omega
  have g3 : decide ((30 : Int) < n) = false := by simp only [decide_eq_false_iff_not]; omega
  have hconv := conv_one
  have hconv2 := conv_two
  have hone : ∀ z : Int, (strOfNums [z]).size = 1 := fun z => rfl
  have HT := Lib.hid hT
  have HLOW := Lib.hid hT.low
  clear hT
  obtain ⟨X, hX⟩ : ∃ X : ByteArray, (⟨(slugL s.data.toList).toArray⟩ : ByteArray) = X := ⟨_, rfl⟩
  have hXl : slugL s.data.toList = X.data.toList := by rw [← hX]
  have hXs : X.size ≤ 40 := by rw [ba_size, ← hXl]; exact slugL_len _
  have cOf : ∀ w, Tabs w → Calls Tryd.prog 10 #[.string s] w fun e w' => e = .returned (.string X) ∧ Below w.heap.size w w' := fun w hT => by
    have := of_any s hT (by omega); rw [hX] at this; exact this
  replace hX := Lib.hid hX
  replace hXl := Lib.hid hXl
  go_enter Tryd.func6, Tryd.ntmps6
  go_wp2_with fail
  refine (alive_any HT.out).mono ?_
  rintro e w1 ⟨rfl, hb1⟩
  have hs1 := hb1.size
  have HB2 := Lib.hid (hb1.alloc hs1 (.cells #[.map none] 27))
  have HA0 := Lib.hid (AncAt.fresh W.heap.size w1 hs1)
  clear hb1
  go_wp2_with fail
  refine (cOf _ (HT.out.under HLOW.out HB2.out)).mono ?_
  rintro e w2 ⟨rfl, hb2⟩
  have HA2 := Lib.hid (HA0.out.below hb2)
  have HB3 := Lib.hid (HB2.out.trans (hb2.mono HB2.out.size))
  clear hb2 cOf
  go_wp2_with fail
  go_loopw [7] (fun vi wr => ∃ (k : Nat) (F : Nat → Prop), k ≤ n ∧ vi = .int .i64 ((k : Int) + 1) ∧ Hid (AncAt W.heap.size F w1.heap.size (told X.data.toList k) wr) ∧ Hid (Below W.heap.size W wr)) (fun vi _ => n + 1 - (RowKit.intOf vi).toNat)
  case atStart => exact ⟨0, _, Nat.zero_le _, rfl, HA2, HB3⟩
  case round =>
    obtain ⟨k, F, hk, rfl, HA, HB⟩ := hrel
    have hfin : ∀ (Wt : ByteArray), Wt.data.toList = cand X.data.toList (k + 1) → Wt.size ≤ 100 → Hid (∀ wx, Below wr.heap.size wr wx → Calls Tryd.prog 13 #[.pointer (some ⟨w1.heap.size, 0, none⟩), .string s] wx fun e w' => e = .returned (.string Wt) ∧ ∃ F', AncAt W.heap.size F' w1.heap.size (told X.data.toList (k + 1)) w' ∧ Below W.heap.size W w') := fun Wt hW hWs wx hbx => by
      have hAx := HA.out.below hbx
      have hBx := HB.out.trans (hbx.mono HB.out.size)
      refine (next_any hAx s (HT.out.under HLOW.out hBx) (by omega) (by rw [told_len]; omega) hBx.size HLOW.out).mono ?_
      rintro e w' ⟨ID, rfl, hnx, -, ⟨F2, hA2, -⟩, hfr2⟩
      rw [hXl.out] at hnx
      have hid := hnx.uniq (told_next _ k)
      have : ID = Wt := ba_eq (by rw [hid, hW])
      subst this
      exact ⟨rfl, F2, by rw [told_succ, ← hid]; exact hA2, hBx.trans (hfr2.to_below (fun q hq => (hAx.lt q hq).1) hBx.size)⟩
    have hhas : ∀ (Wt : ByteArray), Wt.data.toList = cand X.data.toList (k + 1) → Wt.size ≤ 100 → Hid (∀ wx F', AncAt W.heap.size F' w1.heap.size (told X.data.toList (k + 1)) wx → Calls Tryd.prog 12 #[.pointer (some ⟨w1.heap.size, 0, none⟩), .string Wt] wx fun e w' => e = .returned (.bool true) ∧ Below wx.heap.size wx w') := fun Wt hW hWs wx F' hA => by
      refine (has_any hA Wt (by omega)).mono ?_
      rintro e w' ⟨rfl, hb⟩
      exact ⟨by rw [hW, told_succ]; simp, hb⟩
    by_cases hlt : k < n
    · have t0 : decide ((k : Int) + 1 ≤ n) = true := by simp only [decide_eq_true_eq]; omega
      have hbx0 := Below.refl wr.heap.size wr
      by_cases h1 : k = 0
      · subst h1
        have hw : X.data.toList = cand X.data.toList (0 + 1) := by unfold cand; rw [if_pos (by omega)]
        have hWs : X.size ≤ 100 := by omega
        have cN := hfin X hw hWs
        have cH := hhas X hw hWs
        clear hw hfin hhas
        go_wp2_with fail
        refine (cN.out _ hbx0).mono ?_
        rintro e w3 ⟨rfl, F3, hA3, hB3⟩
        have HA3 := Lib.hid hA3
        have HB3' := Lib.hid hB3
        clear hA3 hB3 cN
        go_wp2_with fail
        refine (cH.out _ _ HA3.out).mono ?_
        rintro e w4 ⟨rfl, hb4⟩
        have HA4 := Lib.hid (HA3.out.below hb4)
        have HB4 := Lib.hid (HB3'.out.trans (hb4.mono HB3'.out.size))
        clear hb4 cH
        go_wp2_with fail
        go_roundw
        case rel => exact ⟨0 + 1, F3, by omega, by go_num, HA4, HB4⟩
        case measure => simp only [RowKit.intOf]; omega
      · have t1 : decide ((1 : Int) < (k : Int) + 1) = true := by simp only [decide_eq_true_eq]; omega
        by_cases h2 : k < 9
        · have t2 : decide ((10 : Int) ≤ (k : Int) + 1) = false := by simp only [decide_eq_false_iff_not]; omega
          have hw := want_one (k := k + 1) (by omega) (by omega) X
          rw [show ((k + 1 : Nat) : Int) = (k : Int) + 1 by omega] at hw
          have hWs : (X ++ ⟨#[45]⟩ ++ strOfNums [48 + ((k : Int) + 1) % 10]).size ≤ 100 := by rw [ByteArray.size_append, ByteArray.size_append, hone]; show X.size + 1 + 1 ≤ 100; omega
          obtain ⟨Wt, hWt⟩ : ∃ Wt : ByteArray, X ++ ⟨#[45]⟩ ++ strOfNums [48 + ((k : Int) + 1) % 10] = Wt := ⟨_, rfl⟩
          have cN := hfin Wt (by rw [← hWt]; exact hw) (by rw [← hWt]; exact hWs)
          have cH := hhas Wt (by rw [← hWt]; exact hw) (by rw [← hWt]; exact hWs)
          clear hw hfin hhas
          go_wp2_with fail
          try rw [hWt]
          replace hWt := Lib.hid hWt
          refine (cN.out _ ((Below.refl _ _).alloc (Nat.le_refl _) _)).mono ?_
          rintro e w3 ⟨rfl, F3, hA3, hB3⟩
          have HA3 := Lib.hid hA3
          have HB3' := Lib.hid hB3
          clear hA3 hB3 cN
          go_wp2_with fail
          refine (cH.out _ _ HA3.out).mono ?_
          rintro e w4 ⟨rfl, hb4⟩
          have HA4 := Lib.hid (HA3.out.below hb4)
          have HB4 := Lib.hid (HB3'.out.trans (hb4.mono HB3'.out.size))
          clear hb4 cH
          go_wp2_with fail
          go_roundw
          case rel => exact ⟨k + 1, F3, by omega, by go_num, HA4, HB4⟩
          case measure => simp only [RowKit.intOf]; omega
        · have t2 : decide ((10 : Int) ≤ (k : Int) + 1) = true := by simp only [decide_eq_true_eq]; omega
          have hw := want_two (k := k + 1) (by omega) (by omega) X
          rw [show ((k + 1 : Nat) : Int) = (k : Int) + 1 by omega] at hw
          have hWs : (X ++ ⟨#[45]⟩ ++ strOfNums [48 + ((k : Int) + 1) / 10] ++ strOfNums [48 + ((k : Int) + 1) % 10]).size ≤ 100 := by rw [ByteArray.size_append, ByteArray.size_append, ByteArray.size_append, hone, hone]; show X.size + 1 + 1 + 1 ≤ 100; omega
          have hWs1 : (X ++ ⟨#[45]⟩ : ByteArray).size ≤ 50 := by rw [ByteArray.size_append]; show X.size + 1 ≤ 50; omega
          obtain ⟨Wt, hWt⟩ : ∃ Wt : ByteArray, X ++ ⟨#[45]⟩ ++ strOfNums [48 + ((k : Int) + 1) / 10] ++ strOfNums [48 + ((k : Int) + 1) % 10] = Wt := ⟨_, rfl⟩
          have cN := hfin Wt (by rw [← hWt]; exact hw) (by rw [← hWt]; exact hWs)
          have cH := hhas Wt (by rw [← hWt]; exact hw) (by rw [← hWt]; exact hWs)
          clear hw hfin hhas
          go_wp2_with fail
          try rw [hWt]
          replace hWt := Lib.hid hWt
          refine (cN.out _ (((Below.refl _ _).alloc (Nat.le_refl _) _).alloc (by simp) _)).mono ?_
          rintro e w3 ⟨rfl, F3, hA3, hB3⟩
          have HA3 := Lib.hid hA3
          have HB3' := Lib.hid hB3
          clear hA3 hB3 cN
          go_wp2_with fail
          refine (cH.out _ _ HA3.out).mono ?_
          rintro e w4 ⟨rfl, hb4⟩
          have HA4 := Lib.hid (HA3.out.below hb4)
          have HB4 := Lib.hid (HB3'.out.trans (hb4.mono HB3'.out.size))
          clear hb4 cH
          go_wp2_with fail
          go_roundw
          case rel => exact ⟨k + 1, F3, by omega, by go_num, HA4, HB4⟩
          case measure => simp only [RowKit.intOf]; omega
    · have t0 : decide ((k : Int) + 1 ≤ n) = false := by simp only [decide_eq_false_iff_not]; omega
      go_wp2_with fail
      go_ret
      exact ⟨rfl, HB.out⟩

set_option maxRecDepth 100000 in
set_option maxHeartbeats 1000000 in
theorem slugMany_walk (s : ByteArray) (n : Int) (W : World) (hT : Tabs W) (_hs : s.size ≤ 9223372036854775807) (hn : -9223372036854775808 ≤ n ∧ n ≤ 9223372036854775807) :
    Calls Tryd.prog 6 #[.string s, .int .i64 n] W fun e w' => e = .returned (.bool true) ∧ Below W.heap.size W w' := by
  by_cases h : s.size ≤ 60 ∧ 1 ≤ n ∧ n ≤ 30
  · obtain ⟨m, rfl⟩ := Int.eq_ofNat_of_zero_le (show 0 ≤ n by omega)
    exact many_main s m W hT h.1 (by omega) (by omega)
  · have ha := fun w => @alive_any w
    have HT := Lib.hid hT
    clear hT hn
    have hcase : decide ((60 : Int) < s.size) = true ∨ (decide ((60 : Int) < s.size) = false ∧ decide (n < 1) = true) ∨ (decide ((60 : Int) < s.size) = false ∧ decide (n < 1) = false ∧ decide (30 < n) = true) := by
      simp only [decide_eq_true_eq, decide_eq_false_iff_not]; omega
    clear h
    rcases hcase with g1 | ⟨g1, g2⟩ | ⟨g1, g2, g3⟩
    all_goals go_enter Tryd.func6, Tryd.ntmps6
    all_goals go_wp2_with fail
    all_goals refine (ha _ HT.out).mono ?_
    all_goals rintro e w1 ⟨rfl, hb1⟩
    all_goals go_wp2_with fail
    all_goals go_ret
    all_goals exact ⟨rfl, hb1⟩
end Go.Proofs.YtocgpaekaabmdaaDoor
