/- EntityNumbers: the walk. -/
import Derived.Test.YtnehpclbflnpaaaDoorPlainWalk
import Derived.Deep.DeepCutAuto
import Derived.Deep.CutBlock
import Derived.Laws.BytesArg
namespace Go.Proofs.YtnehpclbflnpaaaDoor
open Go.RowKit Go.Lib

def NumAt2 (base v : Int) (w0 : World) (d : Value) (wx : World) : Prop := ∃ D : ByteArray, d = .string D ∧ Digs base v 0 D.data.toList ∧ D.data.toList ≠ [] ∧ Below w0.heap.size w0 wx
theorem digs_len10 {v w : Int} {d : List UInt8} (h : Digs 10 v w d) (hv : v ≤ 1114128) : d.length ≤ 7 := by
  rcases Nat.lt_or_ge 7 d.length with h7 | h7
  · exfalso
    have h1 := h.low (by omega)
    have h2 : (10 : Int) ^ 7 ≤ 10 ^ (d.length - 1) := pow_mono (by omega) (by omega)
    omega
  · exact h7
theorem digs_len16 {v w : Int} {d : List UInt8} (h : Digs 16 v w d) (hv : v ≤ 1114128) : d.length ≤ 6 := by
  rcases Nat.lt_or_ge 6 d.length with h7 | h7
  · exfalso
    have h1 := h.low (by omega)
    have h2 : (16 : Int) ^ 6 ≤ 16 ^ (d.length - 1) := pow_mono (by omega) (by omega)
    omega
  · exact h7
theorem digs_next {v z : Int} {D : ByteArray} (_ : True) (h : Digs 10 v z D.data.toList) (hgo : 0 < z ∨ D.data.toList = []) : Digs 10 v (z / 10) (strOfNums [48 + z % 10] ++ D).data.toList := by
  have hm := Int.emod_nonneg z (show (10 : Int) ≠ 0 by omega)
  have hm2 := Int.emod_lt_of_pos z (show (0 : Int) < 10 by omega)
  have e : (strOfNums [48 + z % 10] ++ D).data.toList = UInt8.ofNat (48 + z % 10).toNat :: D.data.toList := by simp [strOfNums]
  rw [e]
  refine h.next (.inl rfl) ?_ hgo
  obtain ⟨d, hd⟩ := Int.eq_ofNat_of_zero_le hm
  rw [hd] at hm2 ⊢
  have key : ∀ d : Fin 10, hexVal (UInt8.ofNat (48 + ((d.val : Nat) : Int)).toNat) = ((d.val : Nat) : Int) := by decide
  exact key ⟨d, by omega⟩
theorem digs_next16 {v z : Int} {D : ByteArray} {c : UInt8} (hc : hexVal c = z % 16) (h : Digs 16 v z D.data.toList) (hgo : 0 < z ∨ D.data.toList = []) : Digs 16 v (z / 16) (strOfNums [(c.toNat : Int)] ++ D).data.toList := by
  have e : (strOfNums [(c.toNat : Int)] ++ D).data.toList = c :: D.data.toList := by simp [strOfNums]
  rw [e]
  exact h.next (.inr rfl) hc hgo
/-- sixteen digits -/
def HexDig (G : ByteArray) : Prop := G.size = 16 ∧ ∀ d (h : d < G.size), hexVal G[d] = d
theorem hexDig_of {l : List UInt8} (h : (l.map hexVal) = (List.range 16).map (fun d : Nat => (d : Int))) : HexDig ⟨l.toArray⟩ := by
  have hl : l.length = 16 := by simpa using congrArg List.length h
  refine ⟨by rw [ba_size]; simpa using hl, fun d hd => ?_⟩
  have h2 := congrArg (fun m => m[d]?) h
  rw [ba_size] at hd
  have hd' : d < l.length := by simpa using hd
  simp only [List.getElem?_map, List.getElem?_eq_getElem hd', Option.map_some] at h2
  rw [List.getElem?_eq_getElem (by simp; omega)] at h2
  simp at h2
  exact h2
theorem hexDig_up : HexDig ⟨#[48, 49, 50, 51, 52, 53, 54, 55, 56, 57, 65, 66, 67, 68, 69, 70]⟩ := hexDig_of (l := [48, 49, 50, 51, 52, 53, 54, 55, 56, 57, 65, 66, 67, 68, 69, 70]) (by decide +kernel)
theorem hexDig_lo : HexDig ⟨#[48, 49, 50, 51, 52, 53, 54, 55, 56, 57, 97, 98, 99, 100, 101, 102]⟩ := hexDig_of (l := [48, 49, 50, 51, 52, 53, 54, 55, 56, 57, 97, 98, 99, 100, 101, 102]) (by decide +kernel)
def good (v : Int) : Bool := decide (0 < v ∧ v ≤ 1114111 ∧ (v < 55296 ∨ 57343 < v))
theorem good_iff {v : Int} (hv0 : 0 ≤ v) : good v = true ↔ v ≠ 0 ∧ Utf8.valid v = true := by
  rw [valid_iff]
  unfold good
  simp
  omega
theorem good_text {v : Int} (h : good v = true) : Value.string (Utf8.encode v) = .string ⟨(runeText v).toArray⟩ := by
  have h0 : 0 ≤ v := by unfold good at h; simp at h; omega
  obtain ⟨h1, h2⟩ := (good_iff h0).1 h
  unfold runeText
  rw [if_neg (by rintro (h | h); exact h1 h; rw [h2] at h; cases h), ← utf8_enc]
theorem bad_text {v : Int} (h0 : 0 ≤ v) (h : good v = false) : Value.string ⟨#[239, 191, 189]⟩ = .string ⟨(runeText v).toArray⟩ := by
  unfold runeText
  rw [if_pos]
  by_cases hz : v = 0
  · exact .inl hz
  · right
    cases hv : Utf8.valid v with
    | false => rfl
    | true => rw [(good_iff h0).2 ⟨hz, hv⟩] at h; cases h
theorem conv_one : ∀ (w : World) (z : Int), (convert 47 9 (.slice (some ⟨w.heap.size, 0, none⟩) 1 1)).run Tryd.prog (w.alloc (.cells #[.int .u8 z] 5)) = .ok (.string (strOfNums [z])) (w.alloc (.cells #[.int .u8 z] 5)) := by
  intro w z
  refine run_convert_bytes_arg _ _ 5 Tryd.underlying47 Tryd.underlying5 w.heap.size 0 1 1 [z] rfl (fun i hi => ?_) _ Tryd.underlying9
  obtain rfl : i = 0 := by omega
  simp
set_option maxRecDepth 100000 in
set_option maxHeartbeats 1000000 in
theorem entityNumbers_in (v : Int) (up : Bool) (s : ByteArray) (w : World) (hT : Tabs w) (hv : 0 ≤ v ∧ v ≤ 1114128) (hs : s.size ≤ 30) :
    Calls Tryd.prog 4 #[.int .i64 v, .bool up, .string s] w fun e w' => e = .returned (.bool true) ∧ Below w.heap.size w w' := by
  have ha := fun w => @alive_any w
  obtain ⟨hv0, hv1⟩ := hv
  have hconv := conv_one
  have hone : ∀ z : Int, (strOfNums [z]).size = 1 := fun z => rfl
  have HT := Lib.hid hT
  clear hT
  have f0 : decide (v < 0) = false := by simp only [decide_eq_false_iff_not]; omega
  have f1 : decide (1114128 < v) = false := by simp only [decide_eq_false_iff_not]; omega
  have f2 : decide ((30 : Int) < s.size) = false := by simp only [decide_eq_false_iff_not]; omega
  go_enter Tryd.func4, Tryd.ntmps4
  go_wp2_with fail
  refine (ha _ HT.out).mono ?_
  rintro e w1 ⟨rfl, hb1⟩
  have HB1 := Lib.hid hb1
  have HT1 := Lib.hid (HT.out.on hb1)
  clear hb1
  go_upto_region 4 with fail
  go_cut [47] (fun c wx => c = .bool (good v) ∧ w1 = wx)
  case first =>
    have hg : good v = true ↔ (0 < v ∧ v ≤ 1114111 ∧ (v < 55296 ∨ 57343 < v)) := by unfold good; simp
    replace hg := Lib.hid hg
    go_wp2_with fail
    all_goals go_meet
    all_goals refine ⟨congrArg Value.bool ?_, rfl⟩
    all_goals rw [Bool.eq_iff_iff, hg.out]
    all_goals simp
    all_goals omega
  case rest =>
    obtain ⟨rfl, rfl⟩ := hcut
    go_upto_if 47 with fail
    go_cut [7] (fun c wx => c = .string ⟨(runeText v).toArray⟩ ∧ w1 = wx)
    case first =>
      cases hg : good v with
      | true =>
        replace hg := Lib.hid hg
        go_wp2_with fail
        go_meet
        exact ⟨good_text hg.out, rfl⟩
      | false =>
        replace hg := Lib.hid hg
        go_wp2_with fail
        go_meet
        exact ⟨bad_text hv0 hg.out, rfl⟩
    case rest =>
      obtain ⟨rfl, rfl⟩ := hcut
      go_upto_if 51 with fail
      go_cut [8, 9] (fun g x wx => ∃ G X, g = .string G ∧ x = .string X ∧ Hid (HexDig G) ∧ Hid (X.data.toList = [120] ∨ X.data.toList = [88]) ∧ w1 = wx)
      case first =>
        cases up with
        | true =>
          go_wp2_with fail
          go_meet
          exact ⟨_, _, rfl, rfl, Lib.hid hexDig_up, Lib.hid (.inr rfl), rfl⟩
        | false =>
          go_wp2_with fail
          go_meet
          exact ⟨_, _, rfl, rfl, Lib.hid hexDig_lo, Lib.hid (.inl rfl), rfl⟩
      case rest =>
        obtain ⟨G, X, rfl, rfl, HG, HX, rfl⟩ := hcut
        go_upto_block 0 with fail
        go_cut [10, 12] (fun d _ wx => NumAt2 10 v w d wx)
        case first => 
          go_wp2_with fail
          go_loopw [10, 12] (fun d i wr => ∃ (D : ByteArray) (z : Int), d = .string D ∧ i = .int .i64 z ∧ z ≤ 1114128 ∧ 0 ≤ z ∧ D.size ≤ 20 ∧ Hid (Digs 10 v z D.data.toList) ∧ Below w.heap.size w wr) (fun d i _ => (RowKit.intOf i).toNat + (match d with | .string D => if D.size = 0 then 1 else 0 | _ => 0))
          case atStart => exact ⟨_, _, rfl, rfl, hv1, hv0, by decide, Lib.hid (Digs.start hv0), HB1.out⟩
          case round =>
            obtain ⟨D, z, rfl, rfl, hz1, hz0, hDs, hD, hB⟩ := hrel
            have hDl : D.data.toList.length = D.size := (ba_size D).symm
            have HS := Lib.hid hDl
            clear hDl
            by_cases hz : 0 < z
            · have b1 : decide (0 < z) = true := by simp only [decide_eq_true_eq]; omega
              go_wp2_with fail
              go_roundw
              case rel =>
                have hN := digs_next (by simp) hD.out (.inl hz)
                exact ⟨_, _, rfl, rfl, by omega, by omega, by rw [ba_size]; exact Nat.le_trans (digs_len10 hN hv1) (by decide), Lib.hid hN, hB.trans ((Below.refl _ _).alloc hB.size _)⟩
              case measure =>
                have h2 : ¬ (strOfNums [48 + z % 10] ++ D).size = 0 := by rw [ByteArray.size_append, hone]; omega
                simp only [RowKit.intOf, if_neg h2]
                omega
            · obtain rfl : z = 0 := by omega
              by_cases hd : D.size = 0
              · have b2 : D.toList.isEmpty = true := by rw [Lib.toList_data, List.isEmpty_iff_length_eq_zero, ← ba_size]; exact hd
                have hd0 : D.data.toList = [] := List.eq_nil_of_length_eq_zero (by rw [← ba_size]; exact hd)
                replace hd0 := Lib.hid hd0
                replace hd := Lib.hid hd
                clear hz hz1 hz0
                go_wp2_with fail
                go_roundw
                case rel =>
                  have hN := digs_next (by simp) hD.out (.inr hd0.out)
                  exact ⟨_, _, rfl, rfl, by omega, by omega, by rw [ba_size]; exact Nat.le_trans (digs_len10 hN hv1) (by decide), Lib.hid hN, hB.trans ((Below.refl _ _).alloc hB.size _)⟩
                case measure =>
                  have h2 : ¬ (strOfNums [48] ++ D).size = 0 := by rw [ByteArray.size_append, hone]; omega
                  simp only [RowKit.intOf, if_neg h2, if_pos hd.out]
                  omega
              · have b2 : D.toList.isEmpty = false := by rw [Lib.toList_data]; cases hq : D.data.toList with | nil => exact absurd (by rw [ba_size, hq]; rfl) hd | cons a l => rfl
                have hd0 : D.data.toList ≠ [] := fun e => hd (by rw [ba_size, e]; rfl)
                clear hz hz1 hz0
                go_wp2_with fail
                go_meet
                exact ⟨D, rfl, hD.out, hd0, hB⟩
        case rest =>
          obtain ⟨D, rfl, hD, hD0, hB⟩ := hcut
          have hDs : D.size ≤ 7 := by rw [ba_size]; exact digs_len10 hD hv1
          replace hD := Lib.hid hD
          replace hD0 := Lib.hid hD0
          go_upto_block 2 with fail
          go_cut [11, 13] (fun d _ wx => NumAt2 16 v w d wx)
          case first =>
            go_wp2_with fail
            go_loopw [11, 13] (fun d i wr => ∃ (E : ByteArray) (z : Int), d = .string E ∧ i = .int .i64 z ∧ z ≤ 1114128 ∧ 0 ≤ z ∧ E.size ≤ 20 ∧ Hid (Digs 16 v z E.data.toList) ∧ Below w.heap.size w wr) (fun d i _ => (RowKit.intOf i).toNat + (match d with | .string D => if D.size = 0 then 1 else 0 | _ => 0))
            case atStart => exact ⟨_, _, rfl, rfl, hv1, hv0, by decide, Lib.hid (Digs.start hv0), hB⟩
            case round =>
              obtain ⟨E, z, rfl, rfl, hz1, hz0, hEs, hE, hB2⟩ := hrel
              have hG16 : G.size = 16 := HG.out.1
              have hGl : 15 < G.size := by omega
              replace hG16 := Lib.hid hG16
              by_cases hz : 0 < z
              · have b1 : decide (0 < z) = true := by simp only [decide_eq_true_eq]; omega
                obtain ⟨m, hm⟩ := Int.eq_ofNat_of_zero_le (Int.emod_nonneg z (show (16 : Int) ≠ 0 by omega))
                have hm16 : m < 16 := by have := Int.emod_lt_of_pos z (show (0 : Int) < 16 by omega); omega
                have hmG : m < G.size := by rw [hG16.out]; exact hm16
                have hC : hexVal G[m] = z % 16 := by rw [HG.out.2 m hmG, hm]
                have hN := Lib.hid (digs_next16 hC hE.out (.inl hz))
                replace hC := Lib.hid hC
                go_wp2_with fail
                go_roundw
                case rel =>
                  exact ⟨_, _, rfl, rfl, by omega, by omega, by rw [ba_size]; exact Nat.le_trans (digs_len16 hN.out hv1) (by decide), hN, hB2.trans ((Below.refl _ _).alloc hB2.size _)⟩
                case measure =>
                  have h2 : ¬ (strOfNums [(G[m].toNat : Int)] ++ E).size = 0 := by rw [ByteArray.size_append, hone]; omega
                  simp only [RowKit.intOf, if_neg h2]
                  omega
              · obtain rfl : z = 0 := by omega
                by_cases hd : E.size = 0
                · have b2 : E.toList.isEmpty = true := by rw [Lib.toList_data, List.isEmpty_iff_length_eq_zero, ← ba_size]; exact hd
                  have hd0 : E.data.toList = [] := List.eq_nil_of_length_eq_zero (by rw [← ba_size]; exact hd)
                  have hC : hexVal (G[0]'(by omega)) = 0 % 16 := HG.out.2 0 (by omega)
                  have hN := Lib.hid (digs_next16 hC hE.out (.inr hd0))
                  replace hC := Lib.hid hC
                  replace hd0 := Lib.hid hd0
                  replace hd := Lib.hid hd
                  clear hz hz1 hz0
                  go_wp2_with fail
                  go_roundw
                  case rel =>
                    exact ⟨_, _, rfl, rfl, by omega, by omega, by rw [ba_size]; exact Nat.le_trans (digs_len16 hN.out hv1) (by decide), hN, hB2.trans ((Below.refl _ _).alloc hB2.size _)⟩
                  case measure =>
                    have h2 : ¬ (strOfNums [((G[0]'(by omega)).toNat : Int)] ++ E).size = 0 := by rw [ByteArray.size_append, hone]; omega
                    simp only [RowKit.intOf, if_neg h2, if_pos hd.out]
                    omega
                · have b2 : E.toList.isEmpty = false := by rw [Lib.toList_data]; cases hq : E.data.toList with | nil => exact absurd (by rw [ba_size, hq]; rfl) hd | cons a l => rfl
                  have hd0 : E.data.toList ≠ [] := fun e => hd (by rw [ba_size, e]; rfl)
                  clear hz hz1 hz0
                  go_wp2_with fail
                  go_meet
                  exact ⟨E, rfl, hE.out, hd0, hB2⟩
          case rest =>
            obtain ⟨E, rfl, hE, hE0, hB2⟩ := hcut
            have hEs : E.size ≤ 6 := by rw [ba_size]; exact digs_len16 hE hv1
            have hXs : X.size ≤ 1 := by rw [ba_size]; rcases HX.out with h | h <;> rw [h] <;> simp
            have hsl : s.data.toList.length ≤ 30 := by rw [← ba_size]; exact hs
            have hDl : D.data.toList.length = D.size := (ba_size D).symm
            have hEl : E.data.toList.length = E.size := (ba_size E).symm
            have a1 := at_dec hD.out hD0.out hv1 s.data.toList
            have a2 : ∃ x, X.data.toList = [x] ∧ atR (38 :: 35 :: x :: (E.data.toList ++ 59 :: s.data.toList)) = (runeText v, E.data.toList.length + 4) := by
              rcases HX.out with h | h
              · exact ⟨_, h, at_hex hE hE0 hv1 _ (.inl rfl) _⟩
              · exact ⟨_, h, at_hex hE hE0 hv1 _ (.inr rfl) _⟩
            obtain ⟨x, hXl, a2⟩ := a2
            have c1 : ∀ w, Tabs w → Calls Tryd.prog 9 #[.string (⟨#[38, 35]⟩ ++ D ++ ⟨#[59]⟩ ++ s)] w fun e w' => e = .returned (.tuple #[.string ⟨(runeText v).toArray⟩, .int .i64 (D.size + 3)]) ∧ Below w.heap.size w w' := fun w hT => by
              have := at_list (w := w) (⟨#[38, 35]⟩ ++ D ++ ⟨#[59]⟩ ++ s) _ _ (by simp) a1 (by simp only [List.length_cons, List.length_append]; omega) hT
              dsimp only at this
              rw [hDl] at this
              exact this
            have c2 : ∀ w, Tabs w → Calls Tryd.prog 9 #[.string (⟨#[38, 35]⟩ ++ X ++ E ++ ⟨#[59]⟩ ++ s)] w fun e w' => e = .returned (.tuple #[.string ⟨(runeText v).toArray⟩, .int .i64 (E.size + 4)]) ∧ Below w.heap.size w w' := fun w hT => by
              have := at_list (w := w) (⟨#[38, 35]⟩ ++ X ++ E ++ ⟨#[59]⟩ ++ s) _ _ (by simp [hXl]) a2 (by simp only [List.length_cons, List.length_append]; omega) hT
              dsimp only at this
              rw [hEl] at this
              exact this
            have HT2 := Lib.hid (HT.out.on hB2)
            have HB2 := Lib.hid hB2
            clear a1 a2 hDl hEl hsl hXl hE hE0 hB hB2
            generalize runeText v = R at *
            go_wp2_with fail
            refine (c1 _ HT2.out).mono ?_
            rintro e w3 ⟨rfl, hb3⟩
            have HT3 := Lib.hid (HT2.out.on hb3)
            have HB3 := Lib.hid (HB2.out.trans (hb3.mono HB2.out.size))
            clear hb3
            go_wp2_with fail
            refine (c2 _ HT3.out).mono ?_
            rintro e w4 ⟨rfl, hb4⟩
            have HB4 := Lib.hid (HB3.out.trans (hb4.mono HB3.out.size))
            clear hb4
            go_wp2_with fail
            go_ret
            exact ⟨rfl, HB4.out⟩
set_option maxRecDepth 100000 in
set_option maxHeartbeats 1000000 in
theorem entityNumbers_walk (v : Int) (up : Bool) (s : ByteArray) (w : World) (hT : Tabs w) (hv : -9223372036854775808 ≤ v ∧ v ≤ 9223372036854775807) (hs : s.size ≤ 9223372036854775807) :
    Calls Tryd.prog 4 #[.int .i64 v, .bool up, .string s] w fun e w' => e = .returned (.bool true) ∧ Below w.heap.size w w' := by
  by_cases hin : (0 ≤ v ∧ v ≤ 1114128) ∧ s.size ≤ 30
  · exact entityNumbers_in v up s w hT hin.1 hin.2
  · have ha := fun w => @alive_any w
    have HT := Lib.hid hT
    clear hT
    by_cases h0 : v < 0
    · have f0 : decide (v < 0) = true := by simp only [decide_eq_true_eq]; omega
      clear hin h0 hv
      go_enter Tryd.func4, Tryd.ntmps4
      go_wp2_with fail
      refine (ha _ HT.out).mono ?_
      rintro e w1 ⟨rfl, hb1⟩
      go_wp2_with fail
      go_ret
      exact ⟨rfl, hb1⟩
    · have f0 : decide (v < 0) = false := by simp only [decide_eq_false_iff_not]; omega
      by_cases h1 : 1114128 < v
      · have f1 : decide (1114128 < v) = true := by simp only [decide_eq_true_eq]; omega
        clear hin h0 hv h1
        go_enter Tryd.func4, Tryd.ntmps4
        go_wp2_with fail
        refine (ha _ HT.out).mono ?_
        rintro e w1 ⟨rfl, hb1⟩
        go_wp2_with fail
        go_ret
        exact ⟨rfl, hb1⟩
      · have f1 : decide (1114128 < v) = false := by simp only [decide_eq_false_iff_not]; omega
        have f2 : decide ((30 : Int) < s.size) = true := by simp only [decide_eq_true_eq]; omega
        clear hin h0 hv h1
        go_enter Tryd.func4, Tryd.ntmps4
        go_wp2_with fail
        refine (ha _ HT.out).mono ?_
        rintro e w1 ⟨rfl, hb1⟩
        go_wp2_with fail
        go_ret
        exact ⟨rfl, hb1⟩
end Go.Proofs.YtnehpclbflnpaaaDoor
