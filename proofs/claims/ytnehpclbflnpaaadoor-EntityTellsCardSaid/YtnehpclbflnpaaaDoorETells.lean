/- EntityTells: the walk. -/
import Derived.Test.YtnehpclbflnpaaaDoorRefEnt2
import Derived.Test.YtnehpclbflnpaaaDoorAlive
import Derived.Test.YtnehpclbflnpaaaDoorBkApart
import Derived.Test.YtnehpclbflnpaaaDoorBkAt
namespace Go.Proofs.YtnehpclbflnpaaaDoor
open Go.RowKit Go.Lib

def NB : List ByteArray := namesL.map fun l => ⟨l.toArray⟩
theorem NB_len : NB.length = 23 := rfl
theorem names_row {g base : Nat} {w : World} (h : NamesAt g w) (hb : base ≤ g) : w.ownsRow base 9 1 (.slice (some ⟨g, 0, none⟩) 23 23) NB.length (NB.map .string) := by
  refine ⟨by rw [List.length_map, Nat.mul_one], .inr ⟨g, 23, _, rfl, hb, h, Nat.le_refl _, by unfold maxLen; omega, ?_, ?_⟩⟩
  · rw [List.size_toArray, List.length_map]; rfl
  · unfold NB
    rw [List.map_map]
    rw [List.take_of_length_le]
    · rfl
    · rw [List.length_map]; decide
theorem names_in {g : Nat} {w : World} (h : NamesAt g w) : bk.NamesIn w (.slice (some ⟨g, 0, none⟩) 23 23) NB := bk.namesIn_row (names_row (base := 0) h (Nat.zero_le _))
/-- what entity.Named answers is what the reference's lists say -/
theorem named_idx (nm : ByteArray) : (bk.idxN nm NB 0 = -1 ∧ namedR nm.data.toList = ([], false)) ∨ ∃ k, k < 23 ∧ bk.idxN nm NB 0 = (k : Nat) ∧ namedR nm.data.toList = (encodeRune (runesL.getD k 0), true) := by
  by_cases h : nm ∈ NB
  · right
    obtain ⟨i, h1, h2, h3, -⟩ := bk.idxN_some h 0
    refine ⟨i, h1, by rw [h2, Nat.zero_add], ?_⟩
    have h4 : nm.data.toList = namesL.getD i [] := by
      unfold NB at h3
      rw [List.getElem?_map] at h3
      rw [List.getD_eq_getElem?_getD]
      cases hq : namesL[i]? with
      | none => rw [hq] at h3; cases h3
      | some l => rw [hq] at h3; simp at h3; rw [← h3]; rfl
    rw [h4]
    exact named_at h1
  · left
    refine ⟨bk.idxN_none h 0, named_no (fun hm => h ?_)⟩
    unfold NB
    exact List.mem_map.2 ⟨_, hm, by cases nm; rfl⟩

set_option maxRecDepth 100000 in
set_option maxHeartbeats 4000000 in
theorem etells_in (s nm : ByteArray) (W : World) (hT : Tabs W) (hs : s.size ≤ 100) (hn : nm.size ≤ 60) :
    Calls Tryd.prog 3 #[.string s, .string nm] W fun e w' => e = .returned (.bool true) ∧ Below W.heap.size W w' := by
  have HT := Lib.hid hT
  have t1 : decide ((100 : Int) < (s.size : Int)) = false := by simp only [decide_eq_false_iff_not]; omega
  have t2 : decide ((60 : Int) < (nm.size : Int)) = false := by simp only [decide_eq_false_iff_not]; omega
  clear hT
  go_enter Tryd.func3, Tryd.ntmps3
  go_wp2_with fail
  refine (alive_any HT.out).mono ?_
  rintro e w1 ⟨rfl, hb1⟩
  have HB1 := Lib.hid hb1
  have HT1 := Lib.hid (HT.out.on hb1)
  clear hb1
  go_wp2_with fail
  refine (at_any s (by omega) HT1.out).mono ?_
  rintro e w2 ⟨rfl, hb2⟩
  have HB2 := Lib.hid (HB1.out.trans (hb2.mono HB1.out.size))
  have HT2 := Lib.hid (HT1.out.on hb2)
  clear hb2
  go_wp2_with fail
  refine (refEnt_any s hs).mono ?_
  rintro e w3 ⟨rfl, hb3⟩
  have HB3 := Lib.hid (HB2.out.trans (hb3.mono HB2.out.size))
  have HT3 := Lib.hid (HT2.out.on hb3)
  clear hb3
  generalize atR s.data.toList = R at *
  go_wp2_with fail
  refine refNames_any.mono ?_
  rintro e w4 ⟨g1, g2, rfl, hN, hR, hb4, hg1⟩
  have HN4 := Lib.hid hN
  have HR4 := Lib.hid hR
  have HB4 := Lib.hid (HB3.out.trans (hb4.mono HB3.out.size))
  have HT4 := Lib.hid (HT3.out.on hb4)
  clear hb4 hN hR
  go_wp2_with fail
  refine (bk.refAt_any _ NB nm (names_in HN4.out) (by rw [NB_len]; omega)).mono ?_
  rintro e w5 ⟨rfl, hb5⟩
  have HB5 := Lib.hid (HB4.out.trans (hb5.mono HB4.out.size))
  have HT5 := Lib.hid (HT4.out.on hb5)
  have hl1 := (Array.getElem?_eq_some_iff.1 HN4.out).1
  have hl2 := (Array.getElem?_eq_some_iff.1 HR4.out).1
  have HN5 := Lib.hid (show NamesAt g1 w5 from (hb5.block g1 hl1).trans HN4.out)
  have HR5 := Lib.hid (show RunesAt g2 w5 from (hb5.block g2 hl2).trans HR4.out)
  clear hb5 hl1 hl2
  go_wp2_with fail
  refine (named_any nm HT5.out).mono ?_
  rintro e w6 ⟨rfl, hb6⟩
  have HB6 := Lib.hid (HB5.out.trans (hb6.mono HB5.out.size))
  have HT6 := Lib.hid (HT5.out.on hb6)
  have hl1 := (Array.getElem?_eq_some_iff.1 HN5.out).1
  have hl2 := (Array.getElem?_eq_some_iff.1 HR5.out).1
  have HN6 := Lib.hid (show NamesAt g1 w6 from (hb6.block g1 hl1).trans HN5.out)
  have HR6 := Lib.hid (show RunesAt g2 w6 from (hb6.block g2 hl2).trans HR5.out)
  clear hb6 hl1 hl2
  have hrow7 := Lib.hid (fun (g : Nat) (h : NamesAt g w6) => h)
  clear hrow7
  have hcase := named_idx nm
  have B0 := Lib.hid (bk.BookSt.fresh (base := W.heap.size) w6 HB6.out.size)
  have HB7 := Lib.hid (HB6.out.alloc HB6.out.size (.cells (bk.bookCells bk.nilS bk.nilS bk.nilS bk.nilS) bk.TBook))
  have hlt1 := (Array.getElem?_eq_some_iff.1 HN6.out).1
  have hg16 : g1 < w6.heap.size := hlt1
  have HN7 := Lib.hid (show NamesAt g1 (w6.alloc (.cells (bk.bookCells bk.nilS bk.nilS bk.nilS bk.nilS) bk.TBook)) from (Below.heap_alloc _ _ _ hlt1).trans HN6.out)
  have HT7 := Lib.hid (HT6.out.on ((Below.refl _ _).alloc (Nat.le_refl _) (.cells (bk.bookCells bk.nilS bk.nilS bk.nilS bk.nilS) bk.TBook)))
  clear hlt1
  have HCR := Lib.hid (fun k (hk : k < 23) => runes_cell HR6.out hk)
  rcases hcase with ⟨h1, h2⟩ | ⟨k, hk, h1, h2⟩
  · rw [h1, h2]
    replace h1 := Lib.hid h1
    replace h2 := Lib.hid h2
    go_wp2_with fail
    refine (names_any HT7.out).mono ?_
    rintro e w8 ⟨rfl, hx, hb8⟩
    have B8 := Lib.hid (B0.out.below hb8)
    have HB8 := Lib.hid (HB7.out.trans (hb8.mono HB7.out.size))
    have HT8 := Lib.hid (HT7.out.on hb8)
    have hlt1 := (Array.getElem?_eq_some_iff.1 HN7.out).1
    have HN8 := Lib.hid (show NamesAt g1 w8 from (hb8.block g1 hlt1).trans HN7.out)
    have HX8 := Lib.hid hx
    have hs8 := hb8.size
    have hb7 := HB7.out.size
    have hs6 := HB6.out.size
    clear hb8 hx hlt1
    generalize hw7 : (w6.alloc (.cells (bk.bookCells bk.nilS bk.nilS bk.nilS bk.nilS) bk.TBook)).heap.size = h7 at *
    have hw7s : w6.heap.size < h7 := by rw [← hw7]; simp
    replace hw7 := Lib.hid hw7
    go_wp2_with fail
    refine (names_any HT8.out).mono ?_
    rintro e w9 ⟨rfl, hy, hb9⟩
    have B9 := Lib.hid (B8.out.below hb9)
    have HB9 := Lib.hid (HB8.out.trans (hb9.mono HB8.out.size))
    have hlt1 := (Array.getElem?_eq_some_iff.1 HN8.out).1
    have HN9 := Lib.hid (show NamesAt g1 w9 from (hb9.block g1 hlt1).trans HN8.out)
    have hlt2 := (Array.getElem?_eq_some_iff.1 HX8.out).1
    have HX9 := Lib.hid (show NamesAt h7 w9 from (hb9.block h7 hlt2).trans HX8.out)
    have HY9 := Lib.hid hy
    have hs9 := hb9.size
    clear hb9 hy hlt1
    generalize hw8 : w8.heap.size = h8 at *
    replace hw8 := Lib.hid hw8
    have hh8 : h8 < w9.heap.size := (Array.getElem?_eq_some_iff.1 HY9.out).1
    have hs9b := HB9.out.size
    go_wp2_with fail
    refine (bk.texts_any B9.out (.slice (some ⟨h7, 0, none⟩) 23 23) NB (names_row HX9.out hb7) (fun g hg hF => by
      have h : g = w6.heap.size := hF
      simp [Value.ownBlock] at hg; omega) (by simp) (by rw [NB_len]; omega) hs9b).mono ?_
    rintro e w10 ⟨rfl, ⟨F1, hB10, hF1⟩, hf10⟩
    have B10 := Lib.hid hB10
    have HF1 := Lib.hid hF1
    have HB10 := Lib.hid (hf10.on_below (fun q hq => by have h : q = w6.heap.size := hq; omega) HB9.out (Nat.le_refl _))
    have HN10 := Lib.hid (show NamesAt g1 w10 from (hf10.block g1 (Array.getElem?_eq_some_iff.1 HN9.out).1 (fun h => by have h : g1 = w6.heap.size := h; omega)).trans HN9.out)
    have HX10 := Lib.hid (show NamesAt h7 w10 from (hf10.block h7 (Array.getElem?_eq_some_iff.1 HX9.out).1 (fun h => by have h : h7 = w6.heap.size := h; omega)).trans HX9.out)
    have HY10 := Lib.hid (show NamesAt h8 w10 from (hf10.block h8 hh8 (fun h => by have h : h8 = w6.heap.size := h; omega)).trans HY9.out)
    have hs10 := hf10.size
    have hs10b := HB10.out.size
    clear hB10 hF1 hf10
    have hF18 : Hid (¬ F1 h8) := fun h => by
      rcases HF1.out h8 h with h | h | h
      · have h : h8 = w6.heap.size := h; omega
      · simp [Value.ownBlock] at h; omega
      · omega
    have hF1g : Hid (∀ q, F1 q → w6.heap.size ≤ q) := fun q h => by
      rcases HF1.out q h with h | h | h
      · have h : q = w6.heap.size := h; omega
      · simp [Value.ownBlock] at h; omega
      · omega
    go_wp2_with fail
    refine (bk.texts_any B10.out (.slice (some ⟨h8, 0, none⟩) 23 23) NB (names_row HY10.out (by omega)) (fun g hg hF => by simp [Value.ownBlock] at hg; subst hg; exact hF18.out hF) (by simp) (by rw [NB_len]; omega) hs10b).mono ?_
    rintro e w11 ⟨rfl, ⟨F2, hB11, hF2⟩, hf11⟩
    have B11 := Lib.hid hB11
    have HF2 := Lib.hid hF2
    have HB11 := Lib.hid (hf11.on_below (fun q hq => by have := hF1g.out q hq; have := HB6.out.size; omega) HB10.out (Nat.le_refl _))
    have HN11 := Lib.hid (show NamesAt g1 w11 from (hf11.block g1 (Array.getElem?_eq_some_iff.1 HN10.out).1 (fun h => by have := hF1g.out g1 h; omega)).trans HN10.out)
    have HY11 := Lib.hid (show NamesAt h8 w11 from (hf11.block h8 (by omega) hF18.out).trans HY10.out)
    have HX11 := Lib.hid (bk.BookSt.st B11.out)
    obtain ⟨vT, vW, -, hK⟩ := HX11.out
    have hX11 := hK.rows 0 _ (bk.strX NB) rfl rfl
    have HX12 := Lib.hid (bk.namesIn_row (L := NB) hX11)
    clear hB11 hF2 hf11 hK hX11
    go_wp2_with fail
    refine (bk.same_any _ _ NB NB HX12.out (names_in HN11.out) (by rw [NB_len]; omega) (by rw [NB_len]; omega)).mono ?_
    rw [bk.sameL_refl]
    rintro e w12 ⟨rfl, hb12⟩
    have B12 := Lib.hid (B11.out.below hb12)
    have HB12 := Lib.hid (HB11.out.trans (hb12.mono HB11.out.size))
    have HN12 := Lib.hid ((names_in HN11.out).below hb12)
    have HY12 := Lib.hid ((names_in HY11.out).below hb12)
    clear hb12
    go_wp2_with fail
    refine (bk.same_any _ _ NB NB HY12.out HN12.out (by rw [NB_len]; omega) (by rw [NB_len]; omega)).mono ?_
    rw [bk.sameL_refl]
    rintro e w13 ⟨rfl, hb13⟩
    have B13 := Lib.hid (B12.out.below hb13)
    have HB13 := Lib.hid (HB12.out.trans (hb13.mono HB12.out.size))
    clear hb13
    go_wp2_with fail
    refine (bk.apart_texts B13.out (by simp) (fun L hL => by
      have : L = NB := by simpa using hL
      rw [this, NB_len]; omega) HB13.out.size).mono ?_
    rintro e w14 ⟨rfl, hf14⟩
    have HB14 := Lib.hid (hf14.on_below (fun q hq => (B13.out.lt q hq).1) HB13.out (Nat.le_refl _))
    clear hf14
    go_wp2_with fail
    go_ret
    exact ⟨rfl, HB14.out⟩
  · rw [h1, h2]
    replace h1 := Lib.hid h1
    replace h2 := Lib.hid h2
    have cr := HCR.out k hk
    have hki : (k : Int) < 23 := by omega
    have hk0 : (0 : Int) ≤ (k : Int) := by omega
    generalize runesL.getD k 0 = r at *
    rw [show (⟨(encodeRune r, true).1.toArray⟩ : ByteArray) = Utf8.encode r from ba_eq (by rw [utf8_enc])]
    go_wp2_with fail
    refine (names_any HT7.out).mono ?_
    rintro e w8 ⟨rfl, hx, hb8⟩
    have B8 := Lib.hid (B0.out.below hb8)
    have HB8 := Lib.hid (HB7.out.trans (hb8.mono HB7.out.size))
    have HT8 := Lib.hid (HT7.out.on hb8)
    have hlt1 := (Array.getElem?_eq_some_iff.1 HN7.out).1
    have HN8 := Lib.hid (show NamesAt g1 w8 from (hb8.block g1 hlt1).trans HN7.out)
    have HX8 := Lib.hid hx
    have hs8 := hb8.size
    have hb7 := HB7.out.size
    have hs6 := HB6.out.size
    clear hb8 hx hlt1
    generalize hw7 : (w6.alloc (.cells (bk.bookCells bk.nilS bk.nilS bk.nilS bk.nilS) bk.TBook)).heap.size = h7 at *
    have hw7s : w6.heap.size < h7 := by rw [← hw7]; simp
    replace hw7 := Lib.hid hw7
    go_wp2_with fail
    refine (names_any HT8.out).mono ?_
    rintro e w9 ⟨rfl, hy, hb9⟩
    have B9 := Lib.hid (B8.out.below hb9)
    have HB9 := Lib.hid (HB8.out.trans (hb9.mono HB8.out.size))
    have hlt1 := (Array.getElem?_eq_some_iff.1 HN8.out).1
    have HN9 := Lib.hid (show NamesAt g1 w9 from (hb9.block g1 hlt1).trans HN8.out)
    have hlt2 := (Array.getElem?_eq_some_iff.1 HX8.out).1
    have HX9 := Lib.hid (show NamesAt h7 w9 from (hb9.block h7 hlt2).trans HX8.out)
    have HY9 := Lib.hid hy
    have hs9 := hb9.size
    clear hb9 hy hlt1
    generalize hw8 : w8.heap.size = h8 at *
    replace hw8 := Lib.hid hw8
    have hh8 : h8 < w9.heap.size := (Array.getElem?_eq_some_iff.1 HY9.out).1
    have hs9b := HB9.out.size
    go_wp2_with fail
    refine (bk.texts_any B9.out (.slice (some ⟨h7, 0, none⟩) 23 23) NB (names_row HX9.out hb7) (fun g hg hF => by
      have h : g = w6.heap.size := hF
      simp [Value.ownBlock] at hg; omega) (by simp) (by rw [NB_len]; omega) hs9b).mono ?_
    rintro e w10 ⟨rfl, ⟨F1, hB10, hF1⟩, hf10⟩
    have B10 := Lib.hid hB10
    have HF1 := Lib.hid hF1
    have HB10 := Lib.hid (hf10.on_below (fun q hq => by have h : q = w6.heap.size := hq; omega) HB9.out (Nat.le_refl _))
    have HN10 := Lib.hid (show NamesAt g1 w10 from (hf10.block g1 (Array.getElem?_eq_some_iff.1 HN9.out).1 (fun h => by have h : g1 = w6.heap.size := h; omega)).trans HN9.out)
    have HX10 := Lib.hid (show NamesAt h7 w10 from (hf10.block h7 (Array.getElem?_eq_some_iff.1 HX9.out).1 (fun h => by have h : h7 = w6.heap.size := h; omega)).trans HX9.out)
    have HY10 := Lib.hid (show NamesAt h8 w10 from (hf10.block h8 hh8 (fun h => by have h : h8 = w6.heap.size := h; omega)).trans HY9.out)
    have hs10 := hf10.size
    have hs10b := HB10.out.size
    clear hB10 hF1 hf10
    have hF18 : Hid (¬ F1 h8) := fun h => by
      rcases HF1.out h8 h with h | h | h
      · have h : h8 = w6.heap.size := h; omega
      · simp [Value.ownBlock] at h; omega
      · omega
    have hF1g : Hid (∀ q, F1 q → w6.heap.size ≤ q) := fun q h => by
      rcases HF1.out q h with h | h | h
      · have h : q = w6.heap.size := h; omega
      · simp [Value.ownBlock] at h; omega
      · omega
    go_wp2_with fail
    refine (bk.texts_any B10.out (.slice (some ⟨h8, 0, none⟩) 23 23) NB (names_row HY10.out (by omega)) (fun g hg hF => by simp [Value.ownBlock] at hg; subst hg; exact hF18.out hF) (by simp) (by rw [NB_len]; omega) hs10b).mono ?_
    rintro e w11 ⟨rfl, ⟨F2, hB11, hF2⟩, hf11⟩
    have B11 := Lib.hid hB11
    have HF2 := Lib.hid hF2
    have HB11 := Lib.hid (hf11.on_below (fun q hq => by have := hF1g.out q hq; have := HB6.out.size; omega) HB10.out (Nat.le_refl _))
    have HN11 := Lib.hid (show NamesAt g1 w11 from (hf11.block g1 (Array.getElem?_eq_some_iff.1 HN10.out).1 (fun h => by have := hF1g.out g1 h; omega)).trans HN10.out)
    have HY11 := Lib.hid (show NamesAt h8 w11 from (hf11.block h8 (by omega) hF18.out).trans HY10.out)
    have HX11 := Lib.hid (bk.BookSt.st B11.out)
    obtain ⟨vT, vW, -, hK⟩ := HX11.out
    have hX11 := hK.rows 0 _ (bk.strX NB) rfl rfl
    have HX12 := Lib.hid (bk.namesIn_row (L := NB) hX11)
    clear hB11 hF2 hf11 hK hX11
    go_wp2_with fail
    refine (bk.same_any _ _ NB NB HX12.out (names_in HN11.out) (by rw [NB_len]; omega) (by rw [NB_len]; omega)).mono ?_
    rw [bk.sameL_refl]
    rintro e w12 ⟨rfl, hb12⟩
    have B12 := Lib.hid (B11.out.below hb12)
    have HB12 := Lib.hid (HB11.out.trans (hb12.mono HB11.out.size))
    have HN12 := Lib.hid ((names_in HN11.out).below hb12)
    have HY12 := Lib.hid ((names_in HY11.out).below hb12)
    clear hb12
    go_wp2_with fail
    refine (bk.same_any _ _ NB NB HY12.out HN12.out (by rw [NB_len]; omega) (by rw [NB_len]; omega)).mono ?_
    rw [bk.sameL_refl]
    rintro e w13 ⟨rfl, hb13⟩
    have B13 := Lib.hid (B12.out.below hb13)
    have HB13 := Lib.hid (HB12.out.trans (hb13.mono HB12.out.size))
    clear hb13
    go_wp2_with fail
    refine (bk.apart_texts B13.out (by simp) (fun L hL => by
      have : L = NB := by simpa using hL
      rw [this, NB_len]; omega) HB13.out.size).mono ?_
    rintro e w14 ⟨rfl, hf14⟩
    have HB14 := Lib.hid (hf14.on_below (fun q hq => (B13.out.lt q hq).1) HB13.out (Nat.le_refl _))
    clear hf14
    go_wp2_with fail
    go_ret
    exact ⟨rfl, HB14.out⟩

theorem entityTells_walk (s nm : ByteArray) (w : World) (hT : Tabs w) (hs : s.size ≤ 9223372036854775807) (hn : nm.size ≤ 9223372036854775807) :
    Calls Tryd.prog 3 #[.string s, .string nm] w fun e w' => e = .returned (.bool true) ∧ Below w.heap.size w w' := by
  by_cases hin : s.size ≤ 100 ∧ nm.size ≤ 60
  · exact etells_in s nm w hT hin.1 hin.2
  · have ha := fun w => @alive_any w
    have HT := Lib.hid hT
    clear hT
    by_cases h0 : 100 < s.size
    · have f0 : decide ((100 : Int) < (s.size : Int)) = true := by simp only [decide_eq_true_eq]; omega
      clear hin h0
      go_enter Tryd.func3, Tryd.ntmps3
      go_wp2_with fail
      refine (ha _ HT.out).mono ?_
      rintro e w1 ⟨rfl, hb1⟩
      go_wp2_with fail
      go_ret
      exact ⟨rfl, hb1⟩
    · have f0 : decide ((100 : Int) < (s.size : Int)) = false := by simp only [decide_eq_false_iff_not]; omega
      have f1 : decide ((60 : Int) < (nm.size : Int)) = true := by simp only [decide_eq_true_eq]; omega
      clear hin h0
      go_enter Tryd.func3, Tryd.ntmps3
      go_wp2_with fail
      refine (ha _ HT.out).mono ?_
      rintro e w1 ⟨rfl, hb1⟩
      go_wp2_with fail
      go_ret
      exact ⟨rfl, hb1⟩
end Go.Proofs.YtnehpclbflnpaaaDoor
