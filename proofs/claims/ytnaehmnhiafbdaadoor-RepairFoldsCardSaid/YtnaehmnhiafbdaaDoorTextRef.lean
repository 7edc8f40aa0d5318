/- The reference of repair.Text: the walk. -/
import Derived.Test.YtnaehmnhiafbdaaDoorText
namespace Go.Proofs.YtnaehmnhiafbdaaDoor
open Go.RowKit Go.Lib

theorem tabs_below {g3 g4 : Nat} {B : Nat} {w w' : World} (h : Lib.Utf8Tabs g3 g4 w) (hb : Below B w w') (h3 : g3 < B) (h4 : g4 < B) : Lib.Utf8Tabs g3 g4 w' :=
  ⟨fun c hc => (hb.cell (p := ⟨g3, c, none⟩) h3).trans (h.1 c hc), fun i hi => ⟨(hb.cell (p := ⟨g4, 2 * i, none⟩) h4).trans (h.2 i hi).1, (hb.cell (p := ⟨g4, 2 * i + 1, none⟩) h4).trans (h.2 i hi).2⟩⟩
/-- what every law's walk is told of the world: the decoder's two tables lie where they lay -/
structure Tabs (w : World) : Prop where
  tabs : Lib.Utf8Tabs 0 1 w
  lt3 : 0 < w.heap.size
  lt4 : 1 < w.heap.size

theorem decodeGo_extract (s : ByteArray) (pos : Nat) (h : pos < s.size) : Lib.decodeGo (s.extract pos s.size) = Utf8.decode s pos := by
  have h1 := Lib.decodeL_drop s pos
  have h2 := Lib.decodeL_drop (s.extract pos s.size) 0
  rw [List.drop_zero, Lib.extract_to_end] at h2
  unfold Lib.decodeGo
  rw [if_neg (by simp; omega), ← h2, h1]

theorem decode_from {w0 w : World} {s : ByteArray} {pos r n : Nat} (hp : pos < s.size) (hd : decodeL (s.data.toList.drop pos) = (r, n)) (hT : Tabs w0) (h : Below w0.heap.size w0 w) :
    Calls Tryd.prog 24 #[.string (s.extract pos s.size)] w fun e w' => e = .returned (.tuple #[.int .i32 r, .int .i64 n]) ∧ Below w0.heap.size w0 w' ∧ Below w.heap.size w w' :=
  (Tryd.utf8_DecodeRuneInString _ _ (tabs_below hT.tabs h hT.lt3 hT.lt4)).mono fun e w' ⟨he, hb⟩ =>
    ⟨by rw [he, decodeGo_extract s pos hp, ← decodeL_drop, hd], h.trans (hb.mono h.size), hb⟩

/-- one rune of a text, met by the decoder -/
theorem dec_step {s : ByteArray} {pos : Nat} (hp : pos < s.size) : ∃ r n : Nat, 1 ≤ n ∧ pos + n ≤ s.size ∧ r ≤ 1114111 ∧
      Hid (decodeL (s.data.toList.drop pos) = (r, n)) ∧ Hid (GoodTok (r, (s.data.toList.drop pos).take n)) ∧
      Hid (toks (s.data.toList.drop pos) = (r, (s.data.toList.drop pos).take n) :: toks (s.data.toList.drop (pos + n))) := by
  have hne := it_ne hp
  have hwd := decodeL_width (s.data.toList.drop pos)
  have hdl := decodeL_le _ hne
  rw [List.length_drop, ← ba_size] at hdl
  have hr := decodeL_rune (s.data.toList.drop pos)
  have hg := good_head _ hne
  have ht := toks_step _ hne
  rw [List.drop_drop] at ht
  exact ⟨_, _, hwd, by omega, hr, rfl, hg, ht⟩

theorem drop_cons {L : List UInt8} {pos : Nat} (hp : pos < L.length) : L.drop pos = L.getD pos 0 :: L.drop (pos + 1) := by
  rw [List.getD_eq_getElem?_getD, List.getElem?_eq_getElem hp]
  exact List.drop_eq_getElem_cons hp
theorem tok_ascii {L : List UInt8} {pos r n : Nat} (hp : pos < L.length) (hd : decodeL (L.drop pos) = (r, n)) (h : (L.getD pos 0).toNat < 128) : r = (L.getD pos 0).toNat ∧ n = 1 := by
  rw [drop_cons hp, decodeL_ascii _ _ h] at hd
  cases hd; exact ⟨rfl, rfl⟩
theorem tok_low {L : List UInt8} {pos r n : Nat} (hp : pos < L.length) (hl : pos + n ≤ L.length) (hg : GoodTok (r, (L.drop pos).take n)) (h1 : 1 ≤ n) (h : r < 128) : (L.getD pos 0).toNat = r ∧ n = 1 := by
  obtain ⟨b, e, hb⟩ := good_low hg h
  have e' : (L.drop pos).take n = [b] := e
  have hlen : ((L.drop pos).take n).length = n := by rw [List.length_take, List.length_drop]; omega
  rw [e'] at hlen
  have hn : n = 1 := by simpa using hlen.symm
  subst hn
  rw [drop_cons hp] at e'
  have : L.getD pos 0 = b := by simpa using e'
  rw [this]; exact ⟨hb, rfl⟩

/-- the reference's step: the rune ahead was no CR -/
theorem ref_grow {L X F : List UInt8} {pos r n : Nat} (hA : X ++ textT false (toks (L.drop pos)) = F)
    (ht : toks (L.drop pos) = (r, (L.drop pos).take n) :: toks (L.drop (pos + n))) (h13 : r ≠ 13) :
    (X ++ textOut false r) ++ textT false (toks (L.drop (pos + n))) = F := by
  rw [ht] at hA
  have : decide (r = 13) = false := decide_eq_false h13
  rw [List.append_assoc, ← hA]
  show _ = X ++ (textOut false r ++ textT (decide (r = 13)) _)
  rw [this]
theorem textT_cr {ts : List (Nat × List UInt8)} (h : ∀ x, ts.head? = some x → x.1 ≠ 10) : textT true ts = textT false ts := by
  cases ts with
  | nil => rfl
  | cons x ts =>
    have := h x rfl
    show textOut true x.1 ++ _ = textOut false x.1 ++ _
    unfold textOut
    simp [this]
/-- a CR that stands alone -/
theorem ref_cr {L X F : List UInt8} {pos : Nat} (hA : X ++ textT false (toks (L.drop pos)) = F)
    (ht : toks (L.drop pos) = (13, (L.drop pos).take 1) :: toks (L.drop (pos + 1))) (hno : ¬ (pos + 1 < L.length ∧ L.getD (pos + 1) 0 = 10)) :
    (X ++ [10]) ++ textT false (toks (L.drop (pos + 1))) = F := by
  rw [ht] at hA
  rw [List.append_assoc, ← hA]
  show _ = X ++ ([10] ++ textT true _)
  rw [textT_cr]
  intro x hx
  by_cases hp : pos + 1 < L.length
  · have hne : L.drop (pos + 1) ≠ [] := by
      intro h
      have := congrArg List.length h
      rw [List.length_drop, List.length_nil] at this; omega
    rw [toks_step _ hne] at hx
    cases hx
    intro h10
    have hg := good_head _ hne
    have hw := decodeL_width (L.drop (pos + 1))
    have hdl := decodeL_le _ hne
    rw [List.length_drop] at hdl
    have := (tok_low hp (by omega) hg hw (by rw [h10]; omega)).1
    rw [h10] at this
    exact hno ⟨hp, UInt8.toNat_inj.1 (by rw [this]; rfl)⟩
  · rw [List.drop_of_length_le (by omega), toks_nil] at hx
    cases hx
/-- a CR with its LF -/
theorem ref_crlf {L X F : List UInt8} {pos : Nat} (hA : X ++ textT false (toks (L.drop pos)) = F)
    (ht : toks (L.drop pos) = (13, (L.drop pos).take 1) :: toks (L.drop (pos + 1))) (hp : pos + 1 < L.length) (h10 : L.getD (pos + 1) 0 = 10) :
    (X ++ [10]) ++ textT false (toks (L.drop (pos + 2))) = F := by
  rw [ht] at hA
  have hne : L.drop (pos + 1) ≠ [] := by
    intro h
    have := congrArg List.length h
    rw [List.length_drop, List.length_nil] at this; omega
  have hd : decodeL (L.drop (pos + 1)) = (10, 1) := by
    rw [drop_cons hp, h10]; exact decodeL_ascii _ _ (by decide)
  have h2 := toks_step _ hne
  rw [hd, List.drop_drop] at h2
  rw [List.append_assoc, ← hA]
  show _ = X ++ ([10] ++ textT true _)
  rw [h2]; rfl

theorem ext_tok (s : ByteArray) (pos n : Nat) : (s.extract pos (pos + n)).data.toList = (s.data.toList.drop pos).take n := by
  rw [ba_extract, List.drop_take, Nat.add_sub_cancel_left]

set_option maxHeartbeats 2000000 in
theorem text_ref_from {w0 w : World} (s : ByteArray) (h : Below w0.heap.size w0 w) (hT : Tabs w0) (hs : s.size ≤ 1000000) :
    Calls Tryd.prog 11 #[.string s] w fun e w' => e = .returned (.string ⟨(textF s.data.toList).toArray⟩) ∧ Below w0.heap.size w0 w' := by
  have hsz0 := h.size
  go_enter Tryd.func11, Tryd.ntmps11
  go_wp2_with fail
  go_loopw [3, 4] (fun vo vi wr => ∃ (pos : Nat) (X : ByteArray), vi = .int .i64 pos ∧ vo = .string X ∧ Below w0.heap.size w0 wr ∧ Hid (X.data.toList ++ textT false (toks (s.data.toList.drop pos)) = textF s.data.toList) ∧ X.size ≤ 4 * pos ∧ pos ≤ s.size) (fun _ vi _ => s.size - (RowKit.intOf vi).toNat)
  case atStart => exact ⟨0, _, rfl, rfl, h, rfl, Nat.le_refl 0, Nat.zero_le _⟩
  case round =>
    obtain ⟨pos, X, rfl, rfl, hB, HA, hXl, hps⟩ := hrel
    by_cases hp : pos < s.size
    · obtain ⟨r, n, hn1, hpn, hrl, HD, HG, HT⟩ := dec_step hp
      have c1 : ∀ {w : World}, Below w0.heap.size w0 w → Calls Tryd.prog 24 #[.string (s.extract pos s.size)] w fun e w' => e = .returned (.tuple #[.int .i32 r, .int .i64 n]) ∧ Below w0.heap.size w0 w' ∧ Below w.heap.size w w' := fun {w} h => decode_from hp HD.out hT h
      have hpL : pos < s.data.toList.length := by rw [← ba_size]; exact hp
      have hpnL : pos + n ≤ s.data.toList.length := by rw [← ba_size]; exact hpn
      have HGD := Lib.hid (ba_getD hp)
      have key : r = 0 ∨ (r = 65533 ∧ n ≤ 1) ∨ (r = 65533 ∧ 2 ≤ n ∧ ((s[pos].toNat : Int) == 13) = false) ∨ (r = 13 ∧ n = 1 ∧ s[pos].toNat = 13) ∨ (((r : Int) == 65533) = false ∧ ((r : Int) == 0) = false ∧ r ≠ 13 ∧ ((s[pos].toNat : Int) == 13) = false) := by
        by_cases a0 : r = 0
        · exact .inl a0
        by_cases a3 : r = 13
        · have := tok_low hpL hpnL HG.out hn1 (by omega)
          rw [HGD.out] at this
          exact .inr (.inr (.inr (.inl ⟨a3, this.2, by rw [this.1, a3]⟩)))
        have hb : s[pos].toNat ≠ 13 := by
          intro hb
          have := tok_ascii hpL HD.out (by rw [HGD.out, hb]; omega)
          rw [HGD.out] at this; omega
        have hb2 : ((s[pos].toNat : Int) == 13) = false := by simp; omega
        by_cases a1 : r = 65533
        · by_cases a2 : n ≤ 1
          · exact .inr (.inl ⟨a1, a2⟩)
          · exact .inr (.inr (.inl ⟨a1, by omega, hb2⟩))
        exact .inr (.inr (.inr (.inr ⟨by simp; omega, by simp; omega, a3, hb2⟩)))
      rcases key with hr | ⟨hr, hn⟩ | ⟨hr, hn, hb⟩ | ⟨hr, hn, hb⟩ | ⟨n1, n2, n3, hb⟩
      · subst hr
        have HGR := Lib.hid (ref_grow HA.out HT.out (by omega))
        go_wp2_with fail
        refine (c1 (by assumption)).mono ?_
        rintro e w1 ⟨rfl, hb1, -⟩
        go_wp2_with fail
        go_roundw
        case rel => exact ⟨pos + n, _, by go_num, rfl, hb1, by have hq := HGR.out; rw [show textOut false 0 = badB from rfl] at hq; show _ = _; rw [ba_append]; exact hq, by rw [ByteArray.size_append]; show X.size + 3 ≤ _; omega, by omega⟩
        case measure => simp [RowKit.intOf]; omega
      · subst hr
        have HGR := Lib.hid (ref_grow HA.out HT.out (by omega))
        have hn' : (n : Int) ≤ 1 := by omega
        go_wp2_with fail
        refine (c1 (by assumption)).mono ?_
        rintro e w1 ⟨rfl, hb1, -⟩
        go_wp2_with fail
        go_roundw
        case rel => exact ⟨pos + n, _, by go_num, rfl, hb1, by have hq := HGR.out; rw [show textOut false 65533 = badB from rfl] at hq; show _ = _; rw [ba_append]; exact hq, by rw [ByteArray.size_append]; show X.size + 3 ≤ _; omega, by omega⟩
        case measure => simp [RowKit.intOf]; omega
      · subst hr
        have HGR := Lib.hid (ref_grow HA.out HT.out (by omega))
        have HE := Lib.hid (good_enc HG.out (by rw [List.length_take, List.length_drop]; omega))
        have hn' : 1 < (n : Int) := by omega
        go_wp2_with fail
        refine (c1 (by assumption)).mono ?_
        rintro e w1 ⟨rfl, hb1, -⟩
        go_wp2_with fail
        go_roundw
        case rel => exact ⟨pos + n, _, by go_num, rfl, hb1, by have hq := HGR.out; have he := HE.out; rw [show textOut false 65533 = badB from rfl, ← enc_bad] at hq; show _ = _; rw [ba_append, ext_tok, ← he]; exact hq, by rw [ByteArray.size_append, ba_size (s.extract _ _), ext_tok, List.length_take]; omega, by omega⟩
        case measure => simp [RowKit.intOf]; omega
      · subst hr hn
        by_cases hp1 : pos + 1 < s.size
        · by_cases h10 : s[pos + 1] = 10
          · have hb2 : s[pos + 1].toNat = 10 := by rw [h10]; rfl
            have HGR := Lib.hid (ref_crlf HA.out HT.out (by rw [← ba_size]; exact hp1) (by rw [ba_getD hp1]; exact h10))
            clear h10
            have hp1i : (pos : Int) + 1 < s.size := by omega
            go_wp2_with fail
            refine (c1 (by assumption)).mono ?_
            rintro e w1 ⟨rfl, hb1, -⟩
            go_wp2_with fail
            go_roundw
            case rel => exact ⟨pos + 2, _, by go_num, rfl, hb1, by have hq := HGR.out; show _ = _; rw [ba_append]; exact hq, by rw [ByteArray.size_append]; show X.size + 1 ≤ _; omega, by omega⟩
            case measure => simp [RowKit.intOf]; omega
          · have hb2 : ((s[pos + 1].toNat : Int) == 10) = false := by
              have : s[pos + 1].toNat ≠ 10 := fun h => h10 (UInt8.toNat_inj.1 (by simpa using h))
              simp; omega
            have HGR := Lib.hid (ref_cr HA.out HT.out (by rw [ba_getD hp1]; exact fun h => h10 h.2))
            clear h10
            have hp1i : (pos : Int) + 1 < s.size := by omega
            go_wp2_with fail
            refine (c1 (by assumption)).mono ?_
            rintro e w1 ⟨rfl, hb1, -⟩
            go_wp2_with fail
            go_roundw
            case rel => exact ⟨pos + 1, _, by go_num, rfl, hb1, by have hq := HGR.out; show _ = _; rw [ba_append]; exact hq, by rw [ByteArray.size_append]; show X.size + 1 ≤ _; omega, by omega⟩
            case measure => simp [RowKit.intOf]; omega
        · have HGR := Lib.hid (ref_cr HA.out HT.out (by rw [← ba_size]; exact fun h => hp1 h.1))
          have hp1i : (s.size : Int) ≤ pos + 1 := by omega
          go_wp2_with fail
          refine (c1 (by assumption)).mono ?_
          rintro e w1 ⟨rfl, hb1, -⟩
          go_wp2_with fail
          go_roundw
          case rel => exact ⟨pos + 1, _, by go_num, rfl, hb1, by have hq := HGR.out; show _ = _; rw [ba_append]; exact hq, by rw [ByteArray.size_append]; show X.size + 1 ≤ _; omega, by omega⟩
          case measure => simp [RowKit.intOf]; omega
      · have HGR := Lib.hid (ref_grow HA.out HT.out n3)
        have n1' : r ≠ 65533 := by intro h; subst h; simp at n1
        have n2' : r ≠ 0 := by intro h; subst h; simp at n2
        have HE := Lib.hid (good_enc HG.out (fun h => n1' h.1))
        have HO := Lib.hid (show textOut false r = encodeRune r by unfold textOut; simp [n1', n2', n3])
        clear n1' n2' n3
        go_wp2_with fail
        refine (c1 (by assumption)).mono ?_
        rintro e w1 ⟨rfl, hb1, -⟩
        go_wp2_with fail
        go_roundw
        case rel => exact ⟨pos + n, _, by go_num, rfl, hb1, by have hq := HGR.out; have he := HE.out; rw [HO.out] at hq; show _ = _; rw [ba_append, ext_tok, ← he]; exact hq, by rw [ByteArray.size_append, ba_size (s.extract _ _), ext_tok, List.length_take]; omega, by omega⟩
        case measure => simp [RowKit.intOf]; omega
    · go_wp2_with fail
      go_ret
      refine ⟨ret_string (ba_eq ?_), hB⟩
      have := HA.out
      rw [List.drop_of_length_le (by rw [← ba_size]; omega), toks_nil] at this
      rw [ba_mk, ← this]; simp [textT]
end Go.Proofs.YtnaehmnhiafbdaaDoor
