/- (*bowdlerbook.Book).Apart of a book that keeps texts alone: the walk. Printed by gen_apart.py. -/
import Derived.Test.YtkplnimjliabnaaDoorBkMarked
import Derived.Test.YtkplnimjliabnaaDoorBkEmpty
namespace Go.Proofs.YtkplnimjliabnaaDoor.bk
open Go.RowKit Go.Lib

theorem rows_on {base : Nat} {os : List Value} {w w' : World} (hr : ∀ (j : Nat) (u : Value), os[j]? = some u → ∃ N, N ≤ 100000 ∧ w.ownsRow base 9 1 u N ((marks j 0 N).map .string)) (hb : Below w.heap.size w w') : ∀ (j : Nat) (u : Value), os[j]? = some u → ∃ N, N ≤ 100000 ∧ w'.ownsRow base 9 1 u N ((marks j 0 N).map .string) := fun j u hu => by
  obtain ⟨N, hN, h⟩ := hr j u hu
  exact ⟨N, hN, row_on h hb⟩
theorem marked_rows {T : TypeId} {base : Nat} {F : Nat → Prop} {vT : Value} {vs : List Value} {Ls : List (List ByteArray)} {w : World} (h : Vs T 9 1 base F vT vs (marked vs.length Ls) w) (hlen : Ls.length = vs.length) (hL : ∀ L ∈ Ls, L.length ≤ 90000) : ∀ (j : Nat) (u : Value), vs[j]? = some u → ∃ N, N ≤ 100000 ∧ w.ownsRow base 9 1 u N ((marks j 0 N).map .string) := fun j u hu => by
  have hj : j < vs.length := (List.getElem?_eq_some_iff.1 hu).1
  have hjL : j < Ls.length := by omega
  have hm := marked_at vs.length Ls j hjL
  rw [if_pos hj] at hm
  refine ⟨Ls[j].length, Nat.le_trans (hL _ (List.getElem_mem _)) (by omega), ?_⟩
  have h1 := h.rows j u _ hu hm
  unfold strX at h1
  rw [marks_len] at h1
  exact h1

set_option maxRecDepth 100000 in
set_option maxHeartbeats 8000000 in
theorem apart_texts {base : Nat} {F : Nat → Prop} {b : Nat} {vs : List Value} {Ls : List (List ByteArray)} {w : World} (h : BookSt base F b nilS nilS vs Ls w) (hn : vs.length ≤ 250) (hL : ∀ L ∈ Ls, L.length ≤ 90000) (hbw : base ≤ w.heap.size) :
    Calls Tryd.prog 18 #[.pointer (some ⟨b, 0, none⟩)] w fun e w' => e = .returned (.bool true) ∧ Frame F w w' := by
  have H0 := Lib.hid h
  have HL := Lib.hid hL
  have hFlt := h.lt
  have HFLT := Lib.hid hFlt
  clear hFlt
  have c0 := Lib.hid (fun (w' : World) (hb : Below w.heap.size w w') => still_texts (h.below hb) hn (fun L hL' => Nat.le_trans (hL L hL') (by omega)))
  obtain ⟨vT, vW, hB, hK⟩ := h.st
  have hlen := hK.len
  rw [List.length_map] at hlen
  have HLEN := Lib.hid hlen.symm
  have HV0 := Lib.hid (show BookVs base F b vT vW nilS nilS vs (Ls.map strX) w from ⟨hB, hK.toVs, h.inb, h.lt⟩)
  have HF0 := Lib.hid (Frame.refl F w)
  have hs0 : w.heap.size ≤ w.heap.size := Nat.le_refl _
  clear h hB hK hlen hL
  go_enter Tryd.func18, Tryd.ntmps18
  go_wp2_with fail
  refine (c0.out w (Below.refl _ _)).mono ?_
  rintro e w1 ⟨rfl, hb1⟩
  have HV1 := Lib.hid (HV0.out.below hb1)
  have HF1 := Lib.hid (HF0.out.trans (Frame.of_below (F := F) hb1) (fun _ h => .inl h))
  clear hb1 HV0 HF0 c0 H0
  go_wp2_with fail
  refine (still_Ints (HV1.out.at_.cell 2)).mono ?_
  rintro e w2 ⟨rfl, hb2⟩
  have HV2 := Lib.hid (HV1.out.below hb2)
  have HF2 := Lib.hid (HF1.out.trans (Frame.of_below (F := F) hb2) (fun _ h => .inl h))
  clear hb2 HV1 HF1
  go_wp2_with fail
  refine (still_Blocks (HV2.out.at_.cell 4)).mono ?_
  rintro e w3 ⟨rfl, hb3⟩
  have HV3 := Lib.hid (HV2.out.below hb3)
  have HF3 := Lib.hid (HF2.out.trans (Frame.of_below (F := F) hb3) (fun _ h => .inl h))
  clear hb3 HV2 HF2
  go_wp2_with fail
  refine (still_Inls (HV3.out.at_.cell 6)).mono ?_
  rintro e w4 ⟨rfl, hb4⟩
  have HV4 := Lib.hid (HV3.out.below hb4)
  have HF4 := Lib.hid (HF3.out.trans (Frame.of_below (F := F) hb4) (fun _ h => .inl h))
  clear hb4 HV3 HF3
  go_wp2_with fail
  refine (still_Parts (HV4.out.at_.cell 8)).mono ?_
  rintro e w5 ⟨rfl, hb5⟩
  have HV5 := Lib.hid (HV4.out.below hb5)
  have HF5 := Lib.hid (HF4.out.trans (Frame.of_below (F := F) hb5) (fun _ h => .inl h))
  clear hb5 HV4 HF4
  go_wp2_with fail
  refine (still_Defs (HV5.out.at_.cell 10)).mono ?_
  rintro e w6 ⟨rfl, hb6⟩
  have HV6 := Lib.hid (HV5.out.below hb6)
  have HF6 := Lib.hid (HF5.out.trans (Frame.of_below (F := F) hb6) (fun _ h => .inl h))
  clear hb6 HV5 HF5
  go_wp2_with fail
  refine (still_Secs (HV6.out.at_.cell 12)).mono ?_
  rintro e w7 ⟨rfl, hb7⟩
  have HV7 := Lib.hid (HV6.out.below hb7)
  have HF7 := Lib.hid (HF6.out.trans (Frame.of_below (F := F) hb7) (fun _ h => .inl h))
  clear hb7 HV6 HF6
  go_wp2_with fail
  refine (still_Diags (HV7.out.at_.cell 14)).mono ?_
  rintro e w8 ⟨rfl, hb8⟩
  have HV8 := Lib.hid (HV7.out.below hb8)
  have HF8 := Lib.hid (HF7.out.trans (Frame.of_below (F := F) hb8) (fun _ h => .inl h))
  clear hb8 HV7 HF7
  go_wp2_with fail
  refine (put_Parts (HV8.out.at_.cell 8)).mono ?_
  rintro e w9 ⟨rfl, hb9⟩
  have HV9 := Lib.hid (HV8.out.below hb9)
  have HF9 := Lib.hid (HF8.out.trans (Frame.of_below (F := F) hb9) (fun _ h => .inl h))
  clear hb9 HV8 HF8
  go_wp2_with fail
  refine (put_texts HV9.out hn HL.out).mono ?_
  rintro e w10 ⟨rfl, hv10, hf10⟩
  have HV10 := Lib.hid hv10
  have HF10 := Lib.hid (HF9.out.trans hf10 (fun _ h => .inl h))
  clear hv10 hf10 HV9 HF9
  go_wp2_with fail
  refine (put_Ints (HV10.out.at_.cell 2)).mono ?_
  rintro e w11 ⟨rfl, hb11⟩
  have HV11 := Lib.hid (HV10.out.below hb11)
  have HF11 := Lib.hid (HF10.out.trans (Frame.of_below (F := F) hb11) (fun _ h => .inl h))
  clear hb11 HV10 HF10
  go_wp2_with fail
  refine (put_Blocks (HV11.out.at_.cell 4)).mono ?_
  rintro e w12 ⟨rfl, hb12⟩
  have HV12 := Lib.hid (HV11.out.below hb12)
  have HF12 := Lib.hid (HF11.out.trans (Frame.of_below (F := F) hb12) (fun _ h => .inl h))
  clear hb12 HV11 HF11
  go_wp2_with fail
  refine (put_Inls (HV12.out.at_.cell 6)).mono ?_
  rintro e w13 ⟨rfl, hb13⟩
  have HV13 := Lib.hid (HV12.out.below hb13)
  have HF13 := Lib.hid (HF12.out.trans (Frame.of_below (F := F) hb13) (fun _ h => .inl h))
  clear hb13 HV12 HF12
  go_wp2_with fail
  refine (put_Defs (HV13.out.at_.cell 10)).mono ?_
  rintro e w14 ⟨rfl, hb14⟩
  have HV14 := Lib.hid (HV13.out.below hb14)
  have HF14 := Lib.hid (HF13.out.trans (Frame.of_below (F := F) hb14) (fun _ h => .inl h))
  clear hb14 HV13 HF13
  go_wp2_with fail
  refine (put_Secs (HV14.out.at_.cell 12)).mono ?_
  rintro e w15 ⟨rfl, hb15⟩
  have HV15 := Lib.hid (HV14.out.below hb15)
  have HF15 := Lib.hid (HF14.out.trans (Frame.of_below (F := F) hb15) (fun _ h => .inl h))
  clear hb15 HV14 HF14
  go_wp2_with fail
  refine (put_Diags (HV15.out.at_.cell 14)).mono ?_
  rintro e w16 ⟨rfl, hb16⟩
  have HV16 := Lib.hid (HV15.out.below hb16)
  have HF16 := Lib.hid (HF15.out.trans (Frame.of_below (F := F) hb16) (fun _ h => .inl h))
  clear hb16 HV15 HF15
  go_wp2_with fail
  have hbw16 : base ≤ w16.heap.size := Nat.le_trans hbw HF16.out.size
  refine (grow_texts HV16.out HLEN.out hn HL.out hbw16).mono ?_
  rintro e w17 ⟨vo, os, rfl, ho, hol, hor, hv17, hf17⟩
  have HV17 := Lib.hid hv17
  have HF17 := Lib.hid (HF16.out.trans hf17 (fun _ h => .inl h))
  have HO17 := Lib.hid ho
  have HOL := Lib.hid hol
  have HOR17 := Lib.hid hor
  have hon : os.length ≤ 250 := by omega
  clear hv17 hf17 HV16 HF16 ho hol hor hbw16
  go_wp2_with fail
  refine (grow_Ints (HV17.out.at_.cell 2)).mono ?_
  rintro e w18 ⟨rfl, hb18⟩
  have HV18 := Lib.hid (HV17.out.below hb18)
  have HF18 := Lib.hid (HF17.out.trans (Frame.of_below (F := F) hb18) (fun _ h => .inl h))
  have HO18 := Lib.hid (row_on HO17.out hb18)
  have HOR18 := Lib.hid (rows_on HOR17.out hb18)
  clear hb18 HV17 HF17 HO17 HOR17
  go_wp2_with fail
  refine (grow_Blocks (HV18.out.at_.cell 4)).mono ?_
  rintro e w19 ⟨rfl, hb19⟩
  have HV19 := Lib.hid (HV18.out.below hb19)
  have HF19 := Lib.hid (HF18.out.trans (Frame.of_below (F := F) hb19) (fun _ h => .inl h))
  have HO19 := Lib.hid (row_on HO18.out hb19)
  have HOR19 := Lib.hid (rows_on HOR18.out hb19)
  clear hb19 HV18 HF18 HO18 HOR18
  go_wp2_with fail
  refine (grow_Inls (HV19.out.at_.cell 6)).mono ?_
  rintro e w20 ⟨rfl, hb20⟩
  have HV20 := Lib.hid (HV19.out.below hb20)
  have HF20 := Lib.hid (HF19.out.trans (Frame.of_below (F := F) hb20) (fun _ h => .inl h))
  have HO20 := Lib.hid (row_on HO19.out hb20)
  have HOR20 := Lib.hid (rows_on HOR19.out hb20)
  clear hb20 HV19 HF19 HO19 HOR19
  go_wp2_with fail
  refine (grow_Parts (HV20.out.at_.cell 8)).mono ?_
  rintro e w21 ⟨rfl, hb21⟩
  have HV21 := Lib.hid (HV20.out.below hb21)
  have HF21 := Lib.hid (HF20.out.trans (Frame.of_below (F := F) hb21) (fun _ h => .inl h))
  have HO21 := Lib.hid (row_on HO20.out hb21)
  have HOR21 := Lib.hid (rows_on HOR20.out hb21)
  clear hb21 HV20 HF20 HO20 HOR20
  go_wp2_with fail
  refine (grow_Defs (HV21.out.at_.cell 10)).mono ?_
  rintro e w22 ⟨rfl, hb22⟩
  have HV22 := Lib.hid (HV21.out.below hb22)
  have HF22 := Lib.hid (HF21.out.trans (Frame.of_below (F := F) hb22) (fun _ h => .inl h))
  have HO22 := Lib.hid (row_on HO21.out hb22)
  have HOR22 := Lib.hid (rows_on HOR21.out hb22)
  clear hb22 HV21 HF21 HO21 HOR21
  go_wp2_with fail
  refine (grow_Secs (HV22.out.at_.cell 12)).mono ?_
  rintro e w23 ⟨rfl, hb23⟩
  have HV23 := Lib.hid (HV22.out.below hb23)
  have HF23 := Lib.hid (HF22.out.trans (Frame.of_below (F := F) hb23) (fun _ h => .inl h))
  have HO23 := Lib.hid (row_on HO22.out hb23)
  have HOR23 := Lib.hid (rows_on HOR22.out hb23)
  clear hb23 HV22 HF22 HO22 HOR22
  go_wp2_with fail
  refine (grow_Diags (HV23.out.at_.cell 14)).mono ?_
  rintro e w24 ⟨rfl, hb24⟩
  have HV24 := Lib.hid (HV23.out.below hb24)
  have HF24 := Lib.hid (HF23.out.trans (Frame.of_below (F := F) hb24) (fun _ h => .inl h))
  have HO24 := Lib.hid (row_on HO23.out hb24)
  have HOR24 := Lib.hid (rows_on HOR23.out hb24)
  clear hb24 HV23 HF23 HO23 HOR23
  go_wp2_with fail
  refine (marked_texts HO24.out HOR24.out hon).mono ?_
  rintro e w25 ⟨rfl, hb25⟩
  have HV25 := Lib.hid (HV24.out.below hb25)
  have HF25 := Lib.hid (HF24.out.trans (Frame.of_below (F := F) hb25) (fun _ h => .inl h))
  have HO25 := Lib.hid (row_on HO24.out hb25)
  have HOR25 := Lib.hid (rows_on HOR24.out hb25)
  clear hb25 HV24 HF24 HO24 HOR24
  have cT25 : w25.cell? ⟨b, 0, none⟩ = some vT := HV25.out.at_.cell 0
  have HM := Lib.hid (marked_rows HV25.out.vs_ HLEN.out HL.out)
  go_wp2_with fail
  refine (marked_texts HV25.out.vs_.rowT HM.out hn).mono ?_
  rintro e w26 ⟨rfl, hb26⟩
  have HV26 := Lib.hid (HV25.out.below hb26)
  have HF26 := Lib.hid (HF25.out.trans (Frame.of_below (F := F) hb26) (fun _ h => .inl h))
  have HO26 := Lib.hid (row_on HO25.out hb26)
  have HOR26 := Lib.hid (rows_on HOR25.out hb26)
  clear hb26 HV25 HF25 HO25 HOR25
  clear cT25 HM
  go_wp2_with fail
  refine (marked_Ints).mono ?_
  rintro e w27 ⟨rfl, hb27⟩
  have HV27 := Lib.hid (HV26.out.below hb27)
  have HF27 := Lib.hid (HF26.out.trans (Frame.of_below (F := F) hb27) (fun _ h => .inl h))
  have HO27 := Lib.hid (row_on HO26.out hb27)
  have HOR27 := Lib.hid (rows_on HOR26.out hb27)
  clear hb27 HV26 HF26 HO26 HOR26
  have cInts : w27.cell? ⟨b, 2, none⟩ = some nilS := HV27.out.at_.cell 2
  go_wp2_with fail
  refine (marked_Ints).mono ?_
  rintro e w28 ⟨rfl, hb28⟩
  have HV28 := Lib.hid (HV27.out.below hb28)
  have HF28 := Lib.hid (HF27.out.trans (Frame.of_below (F := F) hb28) (fun _ h => .inl h))
  have HO28 := Lib.hid (row_on HO27.out hb28)
  have HOR28 := Lib.hid (rows_on HOR27.out hb28)
  clear hb28 HV27 HF27 HO27 HOR27
  clear cInts
  go_wp2_with fail
  refine (marked_Blocks).mono ?_
  rintro e w29 ⟨rfl, hb29⟩
  have HV29 := Lib.hid (HV28.out.below hb29)
  have HF29 := Lib.hid (HF28.out.trans (Frame.of_below (F := F) hb29) (fun _ h => .inl h))
  have HO29 := Lib.hid (row_on HO28.out hb29)
  have HOR29 := Lib.hid (rows_on HOR28.out hb29)
  clear hb29 HV28 HF28 HO28 HOR28
  have cBlocks : w29.cell? ⟨b, 4, none⟩ = some nilS := HV29.out.at_.cell 4
  go_wp2_with fail
  refine (marked_Blocks).mono ?_
  rintro e w30 ⟨rfl, hb30⟩
  have HV30 := Lib.hid (HV29.out.below hb30)
  have HF30 := Lib.hid (HF29.out.trans (Frame.of_below (F := F) hb30) (fun _ h => .inl h))
  have HO30 := Lib.hid (row_on HO29.out hb30)
  have HOR30 := Lib.hid (rows_on HOR29.out hb30)
  clear hb30 HV29 HF29 HO29 HOR29
  clear cBlocks
  go_wp2_with fail
  refine (marked_Inls).mono ?_
  rintro e w31 ⟨rfl, hb31⟩
  have HV31 := Lib.hid (HV30.out.below hb31)
  have HF31 := Lib.hid (HF30.out.trans (Frame.of_below (F := F) hb31) (fun _ h => .inl h))
  have HO31 := Lib.hid (row_on HO30.out hb31)
  have HOR31 := Lib.hid (rows_on HOR30.out hb31)
  clear hb31 HV30 HF30 HO30 HOR30
  have cInls : w31.cell? ⟨b, 6, none⟩ = some nilS := HV31.out.at_.cell 6
  go_wp2_with fail
  refine (marked_Inls).mono ?_
  rintro e w32 ⟨rfl, hb32⟩
  have HV32 := Lib.hid (HV31.out.below hb32)
  have HF32 := Lib.hid (HF31.out.trans (Frame.of_below (F := F) hb32) (fun _ h => .inl h))
  have HO32 := Lib.hid (row_on HO31.out hb32)
  have HOR32 := Lib.hid (rows_on HOR31.out hb32)
  clear hb32 HV31 HF31 HO31 HOR31
  clear cInls
  go_wp2_with fail
  refine (marked_Parts).mono ?_
  rintro e w33 ⟨rfl, hb33⟩
  have HV33 := Lib.hid (HV32.out.below hb33)
  have HF33 := Lib.hid (HF32.out.trans (Frame.of_below (F := F) hb33) (fun _ h => .inl h))
  have HO33 := Lib.hid (row_on HO32.out hb33)
  have HOR33 := Lib.hid (rows_on HOR32.out hb33)
  clear hb33 HV32 HF32 HO32 HOR32
  have cParts : w33.cell? ⟨b, 8, none⟩ = some nilS := HV33.out.at_.cell 8
  go_wp2_with fail
  refine (marked_Parts).mono ?_
  rintro e w34 ⟨rfl, hb34⟩
  have HV34 := Lib.hid (HV33.out.below hb34)
  have HF34 := Lib.hid (HF33.out.trans (Frame.of_below (F := F) hb34) (fun _ h => .inl h))
  have HO34 := Lib.hid (row_on HO33.out hb34)
  have HOR34 := Lib.hid (rows_on HOR33.out hb34)
  clear hb34 HV33 HF33 HO33 HOR33
  clear cParts
  go_wp2_with fail
  refine (marked_Defs).mono ?_
  rintro e w35 ⟨rfl, hb35⟩
  have HV35 := Lib.hid (HV34.out.below hb35)
  have HF35 := Lib.hid (HF34.out.trans (Frame.of_below (F := F) hb35) (fun _ h => .inl h))
  have HO35 := Lib.hid (row_on HO34.out hb35)
  have HOR35 := Lib.hid (rows_on HOR34.out hb35)
  clear hb35 HV34 HF34 HO34 HOR34
  have cDefs : w35.cell? ⟨b, 10, none⟩ = some nilS := HV35.out.at_.cell 10
  go_wp2_with fail
  refine (marked_Defs).mono ?_
  rintro e w36 ⟨rfl, hb36⟩
  have HV36 := Lib.hid (HV35.out.below hb36)
  have HF36 := Lib.hid (HF35.out.trans (Frame.of_below (F := F) hb36) (fun _ h => .inl h))
  have HO36 := Lib.hid (row_on HO35.out hb36)
  have HOR36 := Lib.hid (rows_on HOR35.out hb36)
  clear hb36 HV35 HF35 HO35 HOR35
  clear cDefs
  go_wp2_with fail
  refine (marked_Secs).mono ?_
  rintro e w37 ⟨rfl, hb37⟩
  have HV37 := Lib.hid (HV36.out.below hb37)
  have HF37 := Lib.hid (HF36.out.trans (Frame.of_below (F := F) hb37) (fun _ h => .inl h))
  have HO37 := Lib.hid (row_on HO36.out hb37)
  have HOR37 := Lib.hid (rows_on HOR36.out hb37)
  clear hb37 HV36 HF36 HO36 HOR36
  have cSecs : w37.cell? ⟨b, 12, none⟩ = some nilS := HV37.out.at_.cell 12
  go_wp2_with fail
  refine (marked_Secs).mono ?_
  rintro e w38 ⟨rfl, hb38⟩
  have HV38 := Lib.hid (HV37.out.below hb38)
  have HF38 := Lib.hid (HF37.out.trans (Frame.of_below (F := F) hb38) (fun _ h => .inl h))
  have HO38 := Lib.hid (row_on HO37.out hb38)
  have HOR38 := Lib.hid (rows_on HOR37.out hb38)
  clear hb38 HV37 HF37 HO37 HOR37
  clear cSecs
  go_wp2_with fail
  refine (marked_Diags).mono ?_
  rintro e w39 ⟨rfl, hb39⟩
  have HV39 := Lib.hid (HV38.out.below hb39)
  have HF39 := Lib.hid (HF38.out.trans (Frame.of_below (F := F) hb39) (fun _ h => .inl h))
  have HO39 := Lib.hid (row_on HO38.out hb39)
  have HOR39 := Lib.hid (rows_on HOR38.out hb39)
  clear hb39 HV38 HF38 HO38 HOR38
  have cDiags : w39.cell? ⟨b, 14, none⟩ = some nilS := HV39.out.at_.cell 14
  go_wp2_with fail
  refine (marked_Diags).mono ?_
  rintro e w40 ⟨rfl, hb40⟩
  have HV40 := Lib.hid (HV39.out.below hb40)
  have HF40 := Lib.hid (HF39.out.trans (Frame.of_below (F := F) hb40) (fun _ h => .inl h))
  have HO40 := Lib.hid (row_on HO39.out hb40)
  have HOR40 := Lib.hid (rows_on HOR39.out hb40)
  clear hb40 HV39 HF39 HO39 HOR39
  clear cDiags
  go_wp2_with fail
  go_ret
  exact ⟨rfl, HF40.out⟩
end Go.Proofs.YtkplnimjliabnaaDoor.bk
