/- (*html.paper).code: target.Unescape over a text without '&' and '\', then the walk of code. -/
import Derived.Test.YtpabackkapgkpaaGreatDoorHPen
import Derived.Test.YtpabackkapgkpaaGreatDoorHName
import Derived.Deep.RegionWith
import Derived.Deep.RegionHeld3
namespace Go.Proofs.YtpabackkapgkpaaGreatDoor
open Go.RowKit Go.Lib

theorem at_none {w : World} (s : ByteArray) (h : Lib.hasPrefix s.data.toList [38] = false) :
    Calls Tryz.prog 68 #[.string s] w fun e w' => e = .returned (.tuple #[.string ⟨#[]⟩, .int .i64 0]) ∧ w' = w := by
  obtain ⟨R, hcp⟩ : ∃ R : ByteArray, ∀ w, Calls Tryz.prog 81 #[.string s, .string ⟨#[38]⟩] w fun e w' => e = .returned (.tuple #[.string R, .bool false]) ∧ w' = w :=
    ⟨_, fun w => (Tryz.strings_CutPrefix s ⟨#[38]⟩ w).mono fun e w' ⟨h1, h2⟩ => ⟨by rw [h1]; rw [show Lib.hasPrefix s.data.toList (ByteArray.mk #[38]).data.toList = false from h], h2⟩⟩
  replace h := Lib.hid h
  go_enter Tryz.func68, Tryz.ntmps68
  go_wp2_with (go_at_call 81; refine (hcp _).mono ?_; rintro e w1 ⟨rfl, rfl⟩)
  go_ret2
  exact ⟨rfl, rfl⟩

theorem no_amp {s : ByteArray} {i : Nat} (h : i < s.size) (hb : s[i] ≠ 38) : Lib.hasPrefix (s.extract i s.size).data.toList [38] = false := by
  rw [ba_extract, ba_size, List.take_length]
  have hi : i < s.data.toList.length := by rw [← ba_size]; exact h
  rw [List.drop_eq_getElem_cons hi]
  have e : s.data.toList[i] = s[i] := by simp [ByteArray.getElem_eq_getElem_data]
  rw [e]
  show (((38 : UInt8) == s[i]) && List.isPrefixOf [] _) = false
  simp [Ne.symm hb]
theorem take_next {s : ByteArray} {i : Nat} (h : i < s.size) : s.data.toList.take i ++ [s[i]] = s.data.toList.take (i + 1) := by
  have hi : i < s.data.toList.length := by rw [← ba_size]; exact h
  rw [List.take_succ_eq_append_getElem hi]
  simp [ByteArray.getElem_eq_getElem_data]

set_option maxHeartbeats 2000000 in
theorem unescape_plain {w0 w : World} (s : ByteArray) (h : Below w0.heap.size w0 w) (hs : s.size ≤ 1000000) (hp : ∀ b ∈ s.data.toList, b ≠ 38 ∧ b ≠ 92) :
    Calls Tryz.prog 56 #[.string s] w fun e w' => e = .returned (.string s) ∧ Below w0.heap.size w0 w' := by
  have hsz0 := h.size
  have HP := Lib.hid hp
  clear hp
  go_enter Tryz.func56, Tryz.ntmps56
  go_wp2_with fail
  go_loopw [4] (fun vi wr => ∃ i : Nat, i ≤ s.size ∧ vi = .int .i64 i ∧ Hid (Holds w.heap.size (s.data.toList.take i) wr) ∧ Hid (Below w0.heap.size w0 wr) ∧ w.heap.size + 1 ≤ wr.heap.size) (fun vi _ => s.size - (RowKit.intOf vi).toNat)
  case atStart => exact ⟨0, Nat.zero_le _, rfl, Holds.fresh w, h.alloc hsz0 _, by simp⟩
  case round =>
    obtain ⟨i, hi, rfl, HH, HB, hwz⟩ := hrel
    have htl : (s.data.toList.take i).length ≤ 1000000 := by rw [List.length_take, ← ba_size]; omega
    by_cases hlt : i < s.size
    · have hb9 := HP.out s[i] (by
        have e : s[i] = s.data.toList[i]'(by rw [← ba_size]; exact hlt) := by simp [ByteArray.getElem_eq_getElem_data]
        rw [e]; exact List.getElem_mem _)
      have d92 : ((s[i].toNat : Int) == 92) = false := by
        have : s[i].toNat ≠ 92 := fun e => hb9.2 (UInt8.toNat_inj.1 e)
        simp; omega
      have cA : ∀ w, Calls Tryz.prog 68 #[.string (s.extract i s.size)] w fun e w' => e = .returned (.tuple #[.string ⟨#[]⟩, .int .i64 0]) ∧ w' = w := fun w => at_none _ (no_amp hlt hb9.1)
      have HN := Lib.hid (take_next hlt)
      clear hb9
      go_wp2_with (first
        | (go_at_call 68; refine (cA _).mono ?_; rintro e w1 ⟨rfl, rfl⟩)
        | (go_at_call 53; refine (write_byte (c := s[i]) HH.out (by omega) (by omega)).mono ?_; rintro e w2 ⟨rfl, h2⟩; have H2 := Lib.hid h2; clear h2))
      go_roundw
      case rel =>
        refine ⟨i + 1, by omega, by go_num, ?_, HB.out.trans (H2.out.below.mono hsz0), by have := H2.out.below.size; omega⟩
        have := H2.out.holds
        rw [HN.out] at this
        exact this
      case measure => simp only [RowKit.intOf]; omega
    · obtain rfl : i = s.size := by omega
      have hnn : ¬ ((s.size : Int) < s.size) := by omega
      go_wp2_with (go_at_call 27; refine (read_str HH.out (by omega)).mono ?_; rintro e w2 ⟨rfl, h2⟩; have H2 := Lib.hid h2; clear h2)
      go_ret
      exact ⟨ret_string (ba_eq (by rw [ba_mk]; exact List.take_of_length_le (by rw [← ba_size]; exact Nat.le_refl _))), HB.out.trans (H2.out.below.mono hsz0)⟩

set_option maxHeartbeats 2000000 in
set_option maxRecDepth 100000 in
theorem code_ok {w0 : World} {Fn : Nat → Prop} {c : Cfg} {wb nb : Nat} {x : Blk} (hx : x.Small) (h6 : x.kind = 6) : PutOk 40 w0 Fn c wb nb x (codeL x) := by
  intro w1 v9 b s w hw h hl
  have hxt := hx.text
  have hxi := hx.info
  have hpl := hx.plain h6
  obtain ⟨kd, dp, nn, ti, tx, inf⟩ := x
  simp only at hxt hxi hpl h6
  subst h6
  unfold Blk.val
  simp only
  have hlets : Hid (∀ s' w', PSt w0 w1 Fn ⟨v9.v, withB v9.kb w.heap.size (.cells (Blk.cells ⟨6, dp, nn, ti, tx, inf⟩).toArray 50)⟩ b (.pointer (some ⟨wb, 0, none⟩)) nb s' w' → PSt w0 w1 Fn v9 b (.pointer (some ⟨wb, 0, none⟩)) nb s' w') := fun s' w' h' => h'.lets (fun g o hg => by
    have := (Array.getElem?_eq_some_iff.1 (h.ctr g o hg).1).1
    simp only [withB]
    rw [if_neg (by omega)]
    exact hg)
  have H0 := PSt.hold h (Counts.blk ⟨6, dp, nn, ti, tx, inf⟩)
  obtain ⟨kq, hkq⟩ : ∃ kq, withB v9.kb w.heap.size (.cells (Blk.cells ⟨6, dp, nn, ti, tx, inf⟩).toArray 50) = kq := ⟨_, rfl⟩
  have hq1 : kq w.heap.size = some (.cells (Blk.cells ⟨6, dp, nn, ti, tx, inf⟩).toArray 50) := by rw [← hkq]; simp only [withB]; rw [if_pos trivial]
  rw [hkq] at H0 hlets
  have CB := Lib.hid (fun (s' : HSt) (w' : World) (h' : PSt w0 w1 Fn ⟨v9.v, kq⟩ b (.pointer (some ⟨wb, 0, none⟩)) nb s' w') => (show w'.cell? ⟨w.heap.size, 4, none⟩ = some (.string tx) ∧ w'.cell? ⟨w.heap.size, 5, none⟩ = some (.string inf) from by
    refine ⟨?_, ?_⟩
    · rw [Lib.cell_of_heap (h'.ctr _ _ hq1).1]; rfl
    · rw [Lib.cell_of_heap (h'.ctr _ _ hq1).1]; rfl))
  obtain ⟨W0, hW0⟩ : ∃ W0, W0 = w.alloc (.cells #[.int .i64 6, .int .i64 dp, .int .i64 nn, .bool ti, .string tx, .string inf] 50) := ⟨_, rfl⟩
  have H0 : PSt w0 w1 Fn ⟨v9.v, kq⟩ b (.pointer (some ⟨wb, 0, none⟩)) nb s W0 := by rw [hW0]; exact H0
  have H0 := Lib.hid H0
  obtain ⟨q4, q5⟩ := CB.out _ _ H0.out
  obtain ⟨N, hN⟩ : ∃ N : ByteArray, N.data.toList = wordL inf.data.toList := ⟨_, ba_mk _⟩
  have hNs : N.size ≤ 100000 := by
    have := wordL_length inf.data.toList
    rw [← hN, ← ba_size, ← ba_size] at this; omega
  obtain ⟨E, hE⟩ : ∃ E : ByteArray, E.data.toList = escL tx.data.toList := ⟨_, ba_mk _⟩
  have hEs : E.size ≤ 6 * tx.size := by rw [ba_size, hE, ba_size]; exact escL_length _
  obtain ⟨K, hK⟩ : ∃ K : ByteArray, K = if N.toList.isEmpty = true then N else (⟨#[108, 97, 110, 103, 117, 97, 103, 101, 45]⟩ ++ N : ByteArray) := ⟨_, rfl⟩
  have hKl : K.data.toList = classL inf.data.toList := by
    rw [hK]; unfold classL
    rw [← hN, Lib.toList_data]
    by_cases hn : N.data.toList = []
    · rw [if_pos (by rw [hn]; rfl), if_pos hn, hn]
    · rw [if_neg (by simpa using hn), if_neg hn, ba_append]
  have hKs : K.size ≤ 100010 := by
    rw [hK]; split
    · omega
    · rw [ba_size, ba_append, List.length_append, ← ba_size N]; show 9 + N.size ≤ _; omega
  obtain ⟨A, hA⟩ : ∃ A : ByteArray, A.data.toList = attrL [99, 108, 97, 115, 115] (classL inf.data.toList) := ⟨_, ba_mk _⟩
  have hAs : A.size ≤ 1000000 := by
    have a := attrL_length [99, 108, 97, 115, 115] (classL inf.data.toList)
    rw [ba_size, hA]
    rw [← hKl] at a ⊢
    simp only [List.length_cons, List.length_nil] at a
    rw [← ba_size] at a
    omega
  have hX : (⟨#[60, 112, 114, 101, 62, 60, 99, 111, 100, 101]⟩ ++ A ++ ⟨#[62]⟩ ++ E ++ ⟨#[60, 47, 99, 111, 100, 101, 62, 60, 47, 112, 114, 101, 62, 10]⟩ : ByteArray).data.toList = codeL ⟨6, dp, nn, ti, tx, inf⟩ := by
    unfold codeL
    simp only [ba_append, hA, hE]
  have HX := Lib.hid hX
  have HL := Lib.hid hl
  have HK := Lib.hid hK
  have hKA : attrL [99, 108, 97, 115, 115] K.data.toList = A.data.toList := by rw [hKl, hA]
  have cA := Lib.hid (fun (w' : World) (h' : Hid (PSt w0 w1 Fn ⟨v9.v, kq⟩ b (.pointer (some ⟨wb, 0, none⟩)) nb s w')) => (Attr_lit (N := ⟨#[99, 108, 97, 115, 115]⟩) (X := K) (Y := A) hKA (by decide) (by omega) (Below.refl w'.heap.size w')).mono (R' := fun e w'' => e = .returned (.string A) ∧ Hid (PSt w0 w1 Fn ⟨v9.v, kq⟩ b (.pointer (some ⟨wb, 0, none⟩)) nb s w'')) fun e w'' ⟨he, hb⟩ => ⟨he, Lib.hid (h'.out.on hb)⟩)
  have cE := Lib.hid (fun (w' : World) (h' : Hid (PSt w0 w1 Fn ⟨v9.v, kq⟩ b (.pointer (some ⟨wb, 0, none⟩)) nb s w')) => (Esc_lit (X := tx) (Y := E) hE.symm (by omega) (Below.refl w'.heap.size w')).mono (R' := fun e w'' => e = .returned (.string E) ∧ Hid (PSt w0 w1 Fn ⟨v9.v, kq⟩ b (.pointer (some ⟨wb, 0, none⟩)) nb s w'')) fun e w'' ⟨he, hb⟩ => ⟨he, Lib.hid (h'.out.on hb)⟩)
  have HN := Lib.hid hN
  have HPL := Lib.hid (show ∀ b ∈ inf.data.toList, b ≠ 38 ∧ b ≠ 92 from fun b hb => ⟨(hpl b hb).1, (hpl b hb).2.1⟩)
  have g1 : ¬ 9223372036854775807 < 10 + A.size := by omega
  have g2 : ¬ 9223372036854775807 < 10 + A.size + 1 := by omega
  have g3 : ¬ 9223372036854775807 < 10 + A.size + 1 + E.size := by omega
  have g4 : ¬ 9223372036854775807 < 10 + A.size + 1 + E.size + 14 := by omega
  clear h hl hK hKl hA hE hN hX hpl hx hkq hq1 hKA hw
  cases hem : N.toList.isEmpty with
  | true =>
    obtain rfl : N = K := by rw [HK.out, if_pos hem]
    go_enter Tryz.func40, Tryz.ntmps40
    go_wp2_with fail
    rw [← hW0]
    replace hW0 := Lib.hid hW0
    refine (unescape_plain (w0 := W0) inf (Below.refl _ _) (by omega) HPL.out).mono ?_
    rintro e w2 ⟨rfl, hb2⟩
    have H2 := Lib.hid (H0.out.on hb2)
    clear hb2
    go_wp2_with fail
    refine (word_any (w := w2) inf N HN.out).mono ?_
    rintro e w3 ⟨rfl, hb3⟩
    have H3 := Lib.hid (H2.out.on hb3)
    have H3d := Lib.hid (H3.out.on (Below.drew (Below.refl _ w3)))
    obtain ⟨p4, -⟩ := CB.out _ _ H3d.out
    clear hb3 q4 q5 H2 H0
    go_wp2_with fail
    go_region_held3 (fun w' => w'.cell? ⟨w.heap.size, 4, none⟩ = some (.string tx))
      (first | exact p4 | exact (CB.out _ _ H4.out).1 | exact (CB.out _ _ H5.out).1 | exact (CB.out _ _ H6.out).1)
      (first
        | (go_at_call 22; refine (cA.out _ H3d).mono ?_; rintro e w4 ⟨rfl, H4⟩)
        | (go_at_call 18; refine (cE.out _ H4).mono ?_; rintro e w5 ⟨rfl, H5⟩)
        | (go_at_call 33; refine (put_any H5.out HX.out HL.out).mono ?_; rintro e w6 ⟨rfl, h6⟩; have H6 := Lib.hid h6; clear h6))
    all_goals
      go_wp2_with fail
      go_end0
      exact ⟨rfl, hlets.out _ _ H6.out⟩
  | false =>
    obtain rfl : K = (⟨#[108, 97, 110, 103, 117, 97, 103, 101, 45]⟩ ++ N : ByteArray) := by rw [HK.out, if_neg (by rw [hem]; decide)]
    go_enter Tryz.func40, Tryz.ntmps40
    go_wp2_with fail
    rw [← hW0]
    replace hW0 := Lib.hid hW0
    refine (unescape_plain (w0 := W0) inf (Below.refl _ _) (by omega) HPL.out).mono ?_
    rintro e w2 ⟨rfl, hb2⟩
    have H2 := Lib.hid (H0.out.on hb2)
    clear hb2
    go_wp2_with fail
    refine (word_any (w := w2) inf N HN.out).mono ?_
    rintro e w3 ⟨rfl, hb3⟩
    have H3 := Lib.hid (H2.out.on hb3)
    have H3d := Lib.hid (H3.out.on (Below.drew (Below.refl _ w3)))
    obtain ⟨p4, -⟩ := CB.out _ _ H3d.out
    clear hb3 q4 q5 H2 H0
    go_wp2_with fail
    go_region_held3 (fun w' => w'.cell? ⟨w.heap.size, 4, none⟩ = some (.string tx))
      (first | exact p4 | exact (CB.out _ _ H4.out).1 | exact (CB.out _ _ H5.out).1 | exact (CB.out _ _ H6.out).1)
      (first
        | (go_at_call 22; refine (cA.out _ H3d).mono ?_; rintro e w4 ⟨rfl, H4⟩)
        | (go_at_call 18; refine (cE.out _ H4).mono ?_; rintro e w5 ⟨rfl, H5⟩)
        | (go_at_call 33; refine (put_any H5.out HX.out HL.out).mono ?_; rintro e w6 ⟨rfl, h6⟩; have H6 := Lib.hid h6; clear h6))
    all_goals
      go_wp2_with fail
      go_end0
      exact ⟨rfl, hlets.out _ _ H6.out⟩
end Go.Proofs.YtpabackkapgkpaaGreatDoor
