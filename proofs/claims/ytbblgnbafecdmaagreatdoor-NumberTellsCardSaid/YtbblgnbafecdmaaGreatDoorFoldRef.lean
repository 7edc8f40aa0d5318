/- The reference of Fold: the walk. Printed by gen_foldref.py. -/
import Derived.Test.YtbblgnbafecdmaaGreatDoorRefRunes
namespace Go.Proofs.YtbblgnbafecdmaaGreatDoor
open Go.RowKit Go.Lib

theorem great_cases (r : Int) : (greatI r = true ∧ ((decide (65 ≤ r) = true ∧ decide (r ≤ 90) = true) ∨ (decide (65 ≤ r) = true ∧ decide (r ≤ 90) = false ∧ decide (192 ≤ r) = true ∧ decide (r ≤ 222) = true ∧ (r == 215) = false ∧ (r != 215) = true))) ∨
    (greatI r = false ∧ ((decide (65 ≤ r) = false ∧ decide (192 ≤ r) = false) ∨ (decide (65 ≤ r) = true ∧ decide (r ≤ 90) = false ∧ decide (192 ≤ r) = false) ∨ (decide (65 ≤ r) = true ∧ decide (r ≤ 90) = false ∧ decide (192 ≤ r) = true ∧ decide (r ≤ 222) = true ∧ (r == 215) = true ∧ (r != 215) = false) ∨ (decide (65 ≤ r) = true ∧ decide (r ≤ 90) = false ∧ decide (192 ≤ r) = true ∧ decide (r ≤ 222) = false))) := by
  have key : greatI r = true ↔ ((65 ≤ r ∧ r ≤ 90) ∨ (192 ≤ r ∧ r ≤ 214) ∨ (216 ≤ r ∧ r ≤ 222)) := by
    unfold greatI amongB greatSpans
    simp only [List.any_cons, List.any_nil, Bool.or_eq_true, Bool.and_eq_true, decide_eq_true_eq, Bool.or_false]
  have ne : r ≠ 215 → (r == 215) = false ∧ (r != 215) = true := fun h => by
    have : (r == 215) = false := by rw [beq_eq_false_iff_ne]; exact h
    exact ⟨this, by rw [bne, this]; rfl⟩
  cases hg : greatI r with
  | true =>
    left
    have h := key.1 hg
    refine ⟨rfl, ?_⟩
    by_cases h1 : r ≤ 90
    · exact .inl ⟨decide_eq_true (by omega), decide_eq_true h1⟩
    · exact .inr ⟨decide_eq_true (by omega), decide_eq_false h1, decide_eq_true (by omega), decide_eq_true (by omega), ne (by omega)⟩
  | false =>
    right
    have h : ¬ _ := fun h => by have := key.2 h; rw [hg] at this; cases this
    refine ⟨rfl, ?_⟩
    by_cases h1 : r < 65
    · exact .inl ⟨decide_eq_false (by omega), decide_eq_false (by omega)⟩
    by_cases h2 : r = 215
    · exact .inr (.inr (.inl (by subst h2; decide)))
    by_cases h3 : r < 192
    · exact .inr (.inl ⟨decide_eq_true (by omega), decide_eq_false (by omega), decide_eq_false (by omega)⟩)
    exact .inr (.inr (.inr ⟨decide_eq_true (by omega), decide_eq_false (by omega), decide_eq_true (by omega), decide_eq_false (by omega)⟩))

theorem any_empty {X : ByteArray} {b : Bool} (h : anyB X.data.toList = b) : X.toList.isEmpty = !b := by
  rw [Lib.toList_data, ← h]
  unfold anyB
  cases X.data.toList <;> simp

set_option maxHeartbeats 8000000 in
theorem fold_ref_from {w0 w : World} (s : ByteArray) (h : Below w0.heap.size w0 w) (hT : Tabs w0) (hs : s.size ≤ 1000000) :
    Calls Tryz.prog 82 #[.string s] w fun e w' => e = .returned (.string ⟨(foldF s.data.toList).toArray⟩) ∧ Below w0.heap.size w0 w' := by
  have hsz0 := h.size
  go_enter Tryz.func82, Tryz.ntmps82
  go_wp2_with fail
  go_loopw [3, 4, 5] (fun vo vg vi wr => ∃ (pos : Nat) (X : ByteArray) (g : Bool), vi = .int .i64 pos ∧ vo = .string X ∧ vg = .bool g ∧ Below w0.heap.size w0 wr ∧ Hid (g = true → anyB X.data.toList = true) ∧ Hid (X.data.toList ++ foldT (anyB X.data.toList) g (toks (s.data.toList.drop pos)) = foldF s.data.toList) ∧ X.size ≤ 3 * pos ∧ pos ≤ s.size) (fun _ _ vi _ => s.size - (RowKit.intOf vi).toNat)
  case atStart => exact ⟨0, _, false, rfl, rfl, rfl, h, by (intro h; cases h), rfl, Nat.le_refl 0, Nat.zero_le _⟩
  case round =>
    obtain ⟨pos, X, g, rfl, rfl, rfl, hB, HGA, HA, hXl, hps⟩ := hrel
    by_cases hp : pos < s.size
    · obtain ⟨r, n, hn1, hpn, hrl, HD, HG, HT⟩ := dec_step hp
      have cDe : ∀ {w : World}, Below w0.heap.size w0 w → Calls Tryz.prog 87 #[.string (s.extract pos s.size)] w fun e w' => e = .returned (.tuple #[.int .i32 r, .int .i64 n]) ∧ Below w0.heap.size w0 w' := fun {w} h => (decode_from hp HD.out hT h).mono fun e w' ⟨he, hb, _⟩ => ⟨he, hb⟩
      have cSp : ∀ (w : World), Calls Tryz.prog 96 #[.int .i32 r] w fun e w' => e = .returned (.bool (spaceI r)) ∧ w' = w := fun w => space_ref_any r w
      have htl : ((s.data.toList.drop pos).take n).length = n := by rw [List.length_take, List.length_drop, ← ba_size]; omega
      have hfl := foldTok_length HG.out
      dsimp only at hfl
      rw [htl] at hfl
      have HFL := Lib.hid hfl
      have hes : (s.extract pos (pos + n)).size = n := by rw [ba_size, ext_tok, htl]
      have hu8 : (Utf8.encode ((r : Int) + 32)).size ≤ 4 := by rw [ba_size, utf8_enc]; exact enc_length _
      have key : (r = 65533 ∧ (n : Int) ≤ 1 ∧ spaceI r = false ∧ greatI r = false) ∨ 1 < (n : Int) ∨ ((n : Int) ≤ 1 ∧ ((r : Int) == 65533) = false ∧ ((r : Int) != 65533) = true) := by
        by_cases a : 1 < (n : Int)
        · exact .inr (.inl a)
        by_cases b : r = 65533
        · exact .inl ⟨b, by omega, by rw [b]; decide, by rw [b]; decide⟩
        · have h2 : ((r : Int) == 65533) = false := by rw [beq_eq_false_iff_ne]; omega
          exact .inr (.inr ⟨by omega, h2, by rw [bne, h2]; rfl⟩)
      rcases key with ⟨hr, hn, hsp, hgr⟩ | hn | ⟨hn, hr1, hr2⟩
      · cases g with
        | true =>
          have HGR := Lib.hid (fold_gapped HA.out HT.out hsp ⟨rfl, HGA.out rfl⟩)
          have HTK := Lib.hid (show foldTok (r, (s.data.toList.drop pos).take n) = (s.data.toList.drop pos).take n by unfold foldTok; rw [if_neg (by simp [hgr])])
          have HTS := Lib.hid (show (s.extract pos (pos + n)).size ≤ 2 * n by rw [hes]; omega)
          clear hsp hgr hes
          subst hr
          go_wp2_with fail
          refine (cDe (by assumption)).mono ?_
          rintro e w1 ⟨rfl, hb1⟩
          go_wp2_with fail
          go_roundw
          case rel => exact ⟨pos + n, _, false, by go_num, rfl, rfl, hb1, by (intro h; cases h), by show _ = _; rw [ba_append, ba_append, ext_tok, ← HTK.out, anyB_app HFL.out.1]; exact HGR.out, by rw [ByteArray.size_append, ByteArray.size_append]; have := HTS.out; show X.size + 1 + _ ≤ _; omega, by omega⟩
          case measure => simp [RowKit.intOf]; omega
        | false =>
          have HGR := Lib.hid (fold_plain HA.out HT.out hsp (fun h => by cases h.1))
          have HTK := Lib.hid (show foldTok (r, (s.data.toList.drop pos).take n) = (s.data.toList.drop pos).take n by unfold foldTok; rw [if_neg (by simp [hgr])])
          have HTS := Lib.hid (show (s.extract pos (pos + n)).size ≤ 2 * n by rw [hes]; omega)
          clear hsp hgr hes
          subst hr
          go_wp2_with fail
          refine (cDe (by assumption)).mono ?_
          rintro e w1 ⟨rfl, hb1⟩
          go_wp2_with fail
          go_roundw
          case rel => exact ⟨pos + n, _, false, by go_num, rfl, rfl, hb1, by (intro h; cases h), by show _ = _; rw [ba_append, ext_tok, ← HTK.out, anyB_app HFL.out.1]; exact HGR.out, by rw [ByteArray.size_append]; have := HTS.out; omega, by omega⟩
          case measure => simp [RowKit.intOf]; omega
      all_goals
        cases hsp : spaceI r with
        | true =>
          have hX : Hid (X.data.toList ++ foldT (anyB X.data.toList) (anyB X.data.toList) (toks (s.data.toList.drop (pos + n))) = foldF s.data.toList) := by
            have := fold_space HA.out HT.out hsp
            cases hb : anyB X.data.toList with
            | true => rw [hb] at this; exact this
            | false => rw [hb, fold_gap] at this; exact this
          have he := any_empty (X := X) rfl
          cases hb : anyB X.data.toList with
          | true =>
            rw [hb] at he
            have HX := Lib.hid hb
            clear hb hes
            simp only [Bool.not_true] at he
            go_wp2_with fail
            refine (cDe (by assumption)).mono ?_
            rintro e w1 ⟨rfl, hb1⟩
            go_wp2_with fail
            refine (cSp _).mono ?_
            rintro e w2 ⟨rfl, hw2⟩
            subst w2
            go_wp2_with fail
            go_roundw
            case rel => exact ⟨pos + n, X, true, by go_num, rfl, rfl, hb1, fun _ => HX.out, by have h9 := hX.out; rw [HX.out] at h9; rw [HX.out]; exact h9, by omega, by omega⟩
            case measure => simp [RowKit.intOf]; omega
          | false =>
            rw [hb] at he
            have HX := Lib.hid hb
            clear hb hes
            simp only [Bool.not_false] at he
            go_wp2_with fail
            refine (cDe (by assumption)).mono ?_
            rintro e w1 ⟨rfl, hb1⟩
            go_wp2_with fail
            refine (cSp _).mono ?_
            rintro e w2 ⟨rfl, hw2⟩
            subst w2
            go_wp2_with fail
            go_roundw
            case rel => exact ⟨pos + n, X, false, by go_num, rfl, rfl, hb1, by (intro h; cases h), by have h9 := hX.out; rw [HX.out] at h9; rw [HX.out]; exact h9, by omega, by omega⟩
            case measure => simp [RowKit.intOf]; omega
        | false =>
          cases g with
          | true =>
            have HGR := Lib.hid (fold_gapped HA.out HT.out hsp ⟨rfl, HGA.out rfl⟩)
            rcases great_cases r with ⟨hgr, q⟩ | ⟨hgr, q⟩
            · have HTK := Lib.hid (show foldTok (r, (s.data.toList.drop pos).take n) = encodeRune ((r : Int) + 32) by unfold foldTok; rw [if_pos hgr])
              have HTS := Lib.hid (show (Utf8.encode ((r : Int) + 32)).size ≤ 2 * n by rw [ba_size, utf8_enc, ← HTK.out]; exact HFL.out.2)
              clear hes hgr
              rcases q with ⟨q1, q2⟩ | ⟨q1, q2, q3, q4, q5, q6⟩
              all_goals
                go_wp2_with fail
                refine (cDe (by assumption)).mono ?_
                rintro e w1 ⟨rfl, hb1⟩
                go_wp2_with fail
                refine (cSp _).mono ?_
                rintro e w2 ⟨rfl, hw2⟩
                subst w2
                go_wp2_with fail
                go_roundw
                case rel => exact ⟨pos + n, _, false, by go_num, rfl, rfl, hb1, by (intro h; cases h), by show _ = _; rw [ba_append, ba_append, utf8_enc, ← HTK.out, anyB_app HFL.out.1]; exact HGR.out, by rw [ByteArray.size_append, ByteArray.size_append]; have := HTS.out; show X.size + 1 + _ ≤ _; omega, by omega⟩
                case measure => simp [RowKit.intOf]; omega
            · have HTK := Lib.hid (show foldTok (r, (s.data.toList.drop pos).take n) = (s.data.toList.drop pos).take n by unfold foldTok; rw [if_neg (by simp [hgr])])
              have HTS := Lib.hid (show (s.extract pos (pos + n)).size ≤ 2 * n by rw [hes]; omega)
              clear hes hgr
              rcases q with ⟨q1, q2⟩ | ⟨q1, q2, q3⟩ | ⟨q1, q2, q3, q4, q5, q6⟩ | ⟨q1, q2, q3, q4⟩
              all_goals
                go_wp2_with fail
                refine (cDe (by assumption)).mono ?_
                rintro e w1 ⟨rfl, hb1⟩
                go_wp2_with fail
                refine (cSp _).mono ?_
                rintro e w2 ⟨rfl, hw2⟩
                subst w2
                go_wp2_with fail
                go_roundw
                case rel => exact ⟨pos + n, _, false, by go_num, rfl, rfl, hb1, by (intro h; cases h), by show _ = _; rw [ba_append, ba_append, ext_tok, ← HTK.out, anyB_app HFL.out.1]; exact HGR.out, by rw [ByteArray.size_append, ByteArray.size_append]; have := HTS.out; show X.size + 1 + _ ≤ _; omega, by omega⟩
                case measure => simp [RowKit.intOf]; omega
          | false =>
            have HGR := Lib.hid (fold_plain HA.out HT.out hsp (fun h => by cases h.1))
            rcases great_cases r with ⟨hgr, q⟩ | ⟨hgr, q⟩
            · have HTK := Lib.hid (show foldTok (r, (s.data.toList.drop pos).take n) = encodeRune ((r : Int) + 32) by unfold foldTok; rw [if_pos hgr])
              have HTS := Lib.hid (show (Utf8.encode ((r : Int) + 32)).size ≤ 2 * n by rw [ba_size, utf8_enc, ← HTK.out]; exact HFL.out.2)
              clear hes hgr
              rcases q with ⟨q1, q2⟩ | ⟨q1, q2, q3, q4, q5, q6⟩
              all_goals
                go_wp2_with fail
                refine (cDe (by assumption)).mono ?_
                rintro e w1 ⟨rfl, hb1⟩
                go_wp2_with fail
                refine (cSp _).mono ?_
                rintro e w2 ⟨rfl, hw2⟩
                subst w2
                go_wp2_with fail
                go_roundw
                case rel => exact ⟨pos + n, _, false, by go_num, rfl, rfl, hb1, by (intro h; cases h), by show _ = _; rw [ba_append, utf8_enc, ← HTK.out, anyB_app HFL.out.1]; exact HGR.out, by rw [ByteArray.size_append]; have := HTS.out; omega, by omega⟩
                case measure => simp [RowKit.intOf]; omega
            · have HTK := Lib.hid (show foldTok (r, (s.data.toList.drop pos).take n) = (s.data.toList.drop pos).take n by unfold foldTok; rw [if_neg (by simp [hgr])])
              have HTS := Lib.hid (show (s.extract pos (pos + n)).size ≤ 2 * n by rw [hes]; omega)
              clear hes hgr
              rcases q with ⟨q1, q2⟩ | ⟨q1, q2, q3⟩ | ⟨q1, q2, q3, q4, q5, q6⟩ | ⟨q1, q2, q3, q4⟩
              all_goals
                go_wp2_with fail
                refine (cDe (by assumption)).mono ?_
                rintro e w1 ⟨rfl, hb1⟩
                go_wp2_with fail
                refine (cSp _).mono ?_
                rintro e w2 ⟨rfl, hw2⟩
                subst w2
                go_wp2_with fail
                go_roundw
                case rel => exact ⟨pos + n, _, false, by go_num, rfl, rfl, hb1, by (intro h; cases h), by show _ = _; rw [ba_append, ext_tok, ← HTK.out, anyB_app HFL.out.1]; exact HGR.out, by rw [ByteArray.size_append]; have := HTS.out; omega, by omega⟩
                case measure => simp [RowKit.intOf]; omega
    · go_wp2_with fail
      go_ret
      refine ⟨ret_string (ba_eq ?_), hB⟩
      have := HA.out
      rw [List.drop_of_length_le (by rw [← ba_size]; omega), toks_nil] at this
      rw [ba_mk, ← this]; simp [foldT]
end Go.Proofs.YtbblgnbafecdmaaGreatDoor
