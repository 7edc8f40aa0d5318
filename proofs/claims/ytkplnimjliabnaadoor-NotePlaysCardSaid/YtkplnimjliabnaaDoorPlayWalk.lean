/- NotePlays: the walk. Printed by gen_play.py. -/
import Derived.Test.YtkplnimjliabnaaDoorPlay
import Derived.Deep.RegionHeld3
namespace Go.Proofs.YtkplnimjliabnaaDoor
open Go.RowKit Go.Lib

theorem PlaySt.on {w0 : World} {nb rb kb k : Nat} {L : List ByteArray} {C : List Int} {vs : List Value} {Ls : List (List ByteArray)} {F G H : Nat → Prop} {w w' : World} (h : PlaySt w0 nb rb kb k L C vs Ls F G H w) (hb : Below w.heap.size w w') : PlaySt w0 nb rb kb k L C vs Ls F G H w' :=
  ⟨h.below.trans (hb.mono h.below.size), h.notes.frame (Frame.of_below (F := fun _ => False) hb) (fun _ _ h => h), h.refs.frame (Frame.of_below (F := fun _ => False) hb) (fun _ _ h => h), h.book.below hb, h.len, h.cnt, h.lens, h.names, h.nums, h.fg, h.fh, h.gh⟩

set_option maxRecDepth 100000 in
set_option maxHeartbeats 8000000 in
theorem play_main (a : Option Addr) (cap : Nat) (l : List ByteArray) (ask : ByteArray) (x y : Int) (W : World) (hT : Tabs W) (hl : l.length ≤ 60) (ha : ask.size ≤ 60) (hx0 : -1099511627776 ≤ x) (hx1 : x ≤ 9223372036854775807) (hy0 : -1099511627776 ≤ y) (hy1 : y ≤ 9223372036854775807) (hsz : ∀ s ∈ l, s.size ≤ 9223372036854775807)
    (hr : l = [] ∨ ∃ b o, a = some ⟨b, o, none⟩ ∧ b < W.heap.size ∧ ∀ i (h : i < l.length), W.cell? ⟨b, o + i, none⟩ = some (.string l[i])) :
    Calls Tryd.prog 4 #[.slice a l.length cap, .string ask, .int .i64 x, .int .i64 y] W fun e w' => e = .returned (.bool true) ∧ Below W.heap.size W w' := by
  have h0 := Below.refl W.heap.size W
  have hi : (l.length : Int) ≤ 60 := by omega
  have hai : (ask.size : Int) ≤ 60 := by omega
  have HR := Lib.hid hr
  have HSZ := Lib.hid hsz
  clear hr hsz
  have g0 : decide (x < -1099511627776) = false := by simp only [decide_eq_false_iff_not]; omega
  have g1 : decide (y < -1099511627776) = false := by simp only [decide_eq_false_iff_not]; omega
  go_enter Tryd.func4, Tryd.ntmps4
  go_wp2_with fail
  refine (alive_from (by assumption) hT).mono ?_
  rintro e w1 ⟨rfl, hb1⟩
  have hs1 := hb1.size
  have N0 := NotesAt.fresh (T := 30) (base := W.heap.size) w1 hs1
  have R0 := NotesAt.fresh (T := 33) (base := W.heap.size) (w1.alloc (.cells #[.slice none 0 0, .slice none 0 0] 30)) (by simp; omega)
  have K0 := bk.BookSt.fresh (base := W.heap.size) ((w1.alloc (.cells #[.slice none 0 0, .slice none 0 0] 30)).alloc (.cells #[.slice none 0 0, .slice none 0 0] 33)) (by simp; omega)
  have hz1 : (w1.alloc (.cells #[.slice none 0 0, .slice none 0 0] 30)).heap.size = w1.heap.size + 1 := by simp
  have hz2 : ((w1.alloc (.cells #[.slice none 0 0, .slice none 0 0] 30)).alloc (.cells #[.slice none 0 0, .slice none 0 0] 33)).heap.size = w1.heap.size + 1 + 1 := by simp
  have S0 : PlaySt W w1.heap.size (w1.heap.size + 1) (w1.heap.size + 1 + 1) 0 [] [] [] [] (· = w1.heap.size) (· = w1.heap.size + 1) (· = w1.heap.size + 1 + 1) (((w1.alloc (.cells #[.slice none 0 0, .slice none 0 0] 30)).alloc (.cells #[.slice none 0 0, .slice none 0 0] 33)).alloc (.cells (bk.bookCells bk.nilS bk.nilS bk.nilS bk.nilS) bk.TBook)) := by
    rw [hz1] at R0
    rw [hz2] at K0
    exact ⟨((hb1.alloc hs1 _).alloc (by simp; omega) _).alloc (by simp; omega) _, N0.frame (Frame.of_below (F := fun _ => False) (((Below.refl _ _).alloc (Nat.le_refl _) _).alloc (by simp) _)) (fun _ _ h => h), R0.frame (Frame.of_below (F := fun _ => False) ((Below.refl _ _).alloc (Nat.le_refl _) _)) (fun _ _ h => h), K0, Nat.le_refl _, rfl, (fun _ h => by cases h), (fun _ h => by cases h), (fun _ h => by cases h), (fun q h h' => by have h : q = w1.heap.size := h; have h' : q = w1.heap.size + 1 := h'; omega), (fun q h h' => by have h : q = w1.heap.size := h; have h' : q = w1.heap.size + 1 + 1 := h'; omega), (fun q h h' => by have h : q = w1.heap.size + 1 := h; have h' : q = w1.heap.size + 1 + 1 := h'; omega)⟩
  have HS0 := Lib.hid S0
  clear N0 R0 K0 S0 hz1 hz2
  go_wp2_with fail
  go_loopw [52] (fun vi wr => ∃ (k : Nat) (L : List ByteArray) (C : List Int) (vs : List Value) (Ls : List (List ByteArray)) (F G H : Nat → Prop), k ≤ l.length ∧ vi = .int .i64 k ∧ Hid (PlaySt W w1.heap.size (w1.heap.size + 1) (w1.heap.size + 1 + 1) k L C vs Ls F G H wr)) (fun vi _ => l.length - (RowKit.intOf vi).toNat)
  case atStart => exact ⟨0, _, _, _, _, _, _, _, Nat.zero_le _, rfl, HS0⟩
  case round =>
    obtain ⟨k, L, C, vs, Ls, F, G, HH, hk, rfl, HS⟩ := hrel
    clear HS0
    have hLn : L.length ≤ 100000 := by have := HS.out.len; omega
    by_cases hlt : k < l.length
    · rcases HR.out with h9 | ⟨ab, ao, ha9, hbl, hcell⟩
      · rw [h9] at hlt; simp at hlt
      subst ha9
      have hc := (HS.out.below.cell (p := ⟨ab, ao + k, none⟩) hbl).trans (hcell k hlt)
      have hxs := HSZ.out l[k] (List.getElem_mem _)
      have hki : (k : Int) < l.length := by omega
      have hk0 : (0 : Int) ≤ (k : Int) := by omega
      clear hcell
      generalize l[k] = s at *
      by_cases hmem : s ∈ L
      · obtain ⟨i, hiL, hidx, -, -⟩ := idx_some hmem 0
        rw [Nat.zero_add] at hidx
        have hiC : i < C.length := by rw [HS.out.notes.len]; exact hiL
        obtain ⟨c, hck⟩ : ∃ c, C[i]? = some c := ⟨C[i], List.getElem?_eq_getElem hiC⟩
        have hcb := HS.out.nums c (List.mem_of_getElem? hck)
        have HCK := Lib.hid hck
        have HIDX := Lib.hid hidx
        clear hck hidx hmem hiC
        go_wp2_with fail
        refine (ref_found HS.out.notes HCK.out HIDX.out hLn hxs HS.out.names hcb.1 (by omega)).mono ?_
        rintro e w2 ⟨rfl, hN2, hf2⟩
        obtain ⟨P, hP⟩ : ∃ P : Int, (i : Int) + 1 = P := ⟨_, rfl⟩
        obtain ⟨Q, hQ⟩ : ∃ Q : Int, c + 1 = Q := ⟨_, rfl⟩
        have cR := rref_found (HS.out.mid hf2) HCK.out HIDX.out hLn hcb.1 (by omega)
        have HFD := Lib.hid (fun w3 h2 f2 => HS.out.found (w2 := w3) HCK.out hN2 hf2 h2 f2)
        rw [hP, hQ] at *
        replace hP := Lib.hid hP
        replace hQ := Lib.hid hQ
        clear hN2 hf2
        go_wp2_with fail
        refine cR.mono ?_
        rintro e w3 ⟨rfl, hN3, hf3⟩
        have HM := Lib.hid (HFD.out _ hN3 hf3)
        clear hN3 hf3 cR HFD
        generalize C.set i Q = C9 at *
        have hFG : ∃ F9 G9 : Nat → Prop, F9 = F ∧ G9 = G := ⟨_, _, rfl, rfl⟩
        obtain ⟨F9, G9, rfl, rfl⟩ := hFG
        obtain ⟨L9, rfl⟩ : ∃ L9 : List ByteArray, L9 = L := ⟨_, rfl⟩
        have hLn : L9.length ≤ 100000 := by have := HM.out.len; omega
        have hLk : L9.length ≤ 61 := by have := HM.out.len; omega
        have hPP : (P != P) = false := by simp
        have hQQ : (Q != Q) = false := by simp
        have HBK := Lib.hid (fun g (h : HH g) => (HM.out.book.lt g h).2)
        go_wp2_with fail
        refine (all_any HM.out.notes hLn).mono ?_
        rintro e w4 ⟨v, rfl, hv, hb4⟩
        have HM4 := Lib.hid (HM.out.on hb4)
        have hs4 := hb4.size
        have hw3 := HM.out.below.size
        have hrow := bk.row_base (b' := W.heap.size) hv hw3
        have hvn := Lib.hid (fun g (hg : v.ownBlock = some g) => (hv.lt g hg).1)
        have HV := Lib.hid hrow
        clear hv hb4 hrow
        go_wp2_with fail
        have hcnt := HM4.out.cnt
        have hw4 := HM4.out.below.size
        refine (bk.texts_any HM4.out.book v L9 HV.out (fun g hg hF => by have h1 := hvn.out g hg; have h2 := HBK.out g hF; omega) (by omega) hLn hw4).mono ?_
        rintro e w5 ⟨rfl, ⟨HH', hB5, hH5⟩, hf5⟩
        have HP := Lib.hid (HM4.out.kept hB5 hH5 hf5 (fun g hg => ⟨fun h => by have h1 := hvn.out g hg; have h2 := (HM.out.notes.lt g h).2; omega, fun h => by have h1 := hvn.out g hg; have h2 := (HM.out.refs.lt g h).2; omega⟩))
        clear hB5 hH5 hf5 hcnt
        obtain ⟨v1, v2, hrb, hr1, hr2, -⟩ := HP.out.refs.rows
        have c0 := (cells_two hrb).1
        have c1 := (cells_two hrb).2.1
        have hrblt := (Array.getElem?_eq_some_iff.1 hrb).1
        have HR1 := Lib.hid hr1
        have HR2 := Lib.hid hr2
        have HRN := Lib.hid (bk.namesIn_row hr1)
        clear hrb hr1 hr2
        go_wp2_with fail
        refine (bk.refAt_any v1 L9 ask HRN.out hLn).mono ?_
        rw [idxN_is]
        rintro e w6 ⟨rfl, hb6⟩
        have HB6 := Lib.hid hb6
        have hcc0 := (hb6.cell (p := ⟨w1.heap.size + 1, 0, none⟩) hrblt).trans c0
        have hcc1 := (hb6.cell (p := ⟨w1.heap.size + 1, 1, none⟩) hrblt).trans c1
        have hs6 := hb6.size
        have hlen9 := HP.out.notes.len
        have HALL := Lib.hid (fun (w' : World) (hb : Below w5.heap.size w5 w') => all_any (HP.out.notes.frame (Frame.of_below (F := fun _ => False) hb) (fun _ _ h => h)) hLn)
        have HSM := Lib.hid (fun (w' : World) (v7 : Value) (hb : Below w5.heap.size w5 w') (hr : w'.ownsRow w6.heap.size 9 1 v7 L9.length (L9.map .string)) => bk.same_any (w := w') v7 v1 L9 L9 (bk.namesIn_row hr) (bk.namesIn_row (row_kept HR1.out (fun g hg => hb.block g (HR1.out.lt g hg).2))) hLn hLn)
        have HTM := Lib.hid (fun (w' : World) (hb : Below w5.heap.size w5 w') => times_any (nm := ask) (HP.out.notes.frame (Frame.of_below (F := fun _ => False) hb) (fun _ _ h => h)) hLn (by omega) HP.out.names)
        clear c0 c1 hb6
        by_cases hmem : ask ∈ L9
        · obtain ⟨i, hi, hidx, -, -⟩ := idx_some hmem 0
          rw [Nat.zero_add] at hidx
          have hiC : i < C9.length := by rw [hlen9]; exact hi
          obtain ⟨g2, cap2, rfl, -⟩ := row_some HR2.out (by rw [List.length_map]; omega)
          have hg2 := (HR2.out.lt g2 rfl).2
          have cT : w6.cell? ⟨g2, i, none⟩ = some (.int .i64 C9[i]) := by
            rw [HB6.out.cell (p := ⟨g2, i, none⟩) hg2, HR2.out.cellAt i (by omega), List.getElem?_map, List.getElem?_eq_getElem hiC]; rfl
          have hT9 : timesZ ask L9 C9 = C9[i] := by
            unfold timesZ
            rw [hidx, if_pos (by omega), Int.toNat_natCast, List.getD_eq_getElem?_getD, List.getElem?_eq_getElem hiC]; rfl
          have hiCi : (i : Int) < C9.length := by omega
          have hi0 : (0 : Int) ≤ (i : Int) := by omega
          rw [hidx]
          replace hlen9 := Lib.hid hlen9
          replace hidx := Lib.hid hidx
          obtain ⟨T, hT⟩ : ∃ T : Int, C9[i] = T := ⟨_, rfl⟩
          rw [hT] at cT hT9
          rw [hT9] at HTM
          replace hT := Lib.hid hT
          replace hT9 := Lib.hid hT9
          have hTT : (T != T) = false := by simp
          go_wp2_with fail
          go_region_held3 (fun w' => w'.cell? ⟨w1.heap.size + 1, 0, none⟩ = some v1) (go_keep)
            (first
              | (go_at_call 12; refine (HALL.out w6.drew (Below.trans HB6.out (Below.mono (Below.drew (Below.refl _ w6)) hs6))).mono ?_; rintro e w7 ⟨v7, rfl, hrow7, hb7⟩; have hb57 : Below w5.heap.size w5 w7 := Below.trans (Below.trans HB6.out (Below.mono (Below.drew (Below.refl _ w6)) hs6)) (Below.mono hb7 hs6); have hc7 : w7.cell? ⟨w1.heap.size + 1, 0, none⟩ = some v1 := (hb7.cell (p := ⟨w1.heap.size + 1, 0, none⟩) (World.block_lt_of_cell? w6 _ hcc0)).trans hcc0; have hs7 := hb7.size)
              | (go_at_call 14; refine (HSM.out w7 v7 hb57 hrow7).mono ?_; rw [bk.sameL_refl]; rintro e w8 ⟨rfl, hb8⟩; have hb58 : Below w5.heap.size w5 w8 := Below.trans hb57 (Below.mono hb8 hb57.size); have hc8 : w8.cell? ⟨w1.heap.size + 1, 0, none⟩ = some v1 := (hb8.cell (p := ⟨w1.heap.size + 1, 0, none⟩) (World.block_lt_of_cell? w7 _ hc7)).trans hc7)
              | (go_at_call 15; refine (HTM.out w8 hb58).mono ?_; rintro e w9 ⟨rfl, hb9⟩; have hb59 : Below w5.heap.size w5 w9 := Below.trans hb58 (Below.mono hb9 hb58.size); have hc9 : w9.cell? ⟨w1.heap.size + 1, 0, none⟩ = some v1 := (hb9.cell (p := ⟨w1.heap.size + 1, 0, none⟩) (World.block_lt_of_cell? w8 _ hc8)).trans hc8))
          have HEND := Lib.hid (HP.out.on hb59)
          clear hb59 hb58 hb57 hc7 hc8 hc9 hrow7 hb7 hb8 hb9
          go_wp2_with fail
          go_roundw
          case rel => exact ⟨k + 1, L9, C9, _, _, F9, G9, HH', by omega, by go_num, HEND⟩
          case measure => simp only [RowKit.intOf]; omega
        · have hidx := idx_none hmem 0
          have hT9 : timesZ ask L9 C9 = 0 := by unfold timesZ; rw [hidx, if_neg (by omega)]
          rw [hidx]
          replace hlen9 := Lib.hid hlen9
          replace hidx := Lib.hid hidx
          rw [hT9] at HTM
          replace hT9 := Lib.hid hT9
          replace hmem := Lib.hid hmem
          go_wp2_with fail
          go_region_held3 (fun w' => w'.cell? ⟨w1.heap.size + 1, 0, none⟩ = some v1) (go_keep)
            (first
              | (go_at_call 12; refine (HALL.out w6.drew (Below.trans HB6.out (Below.mono (Below.drew (Below.refl _ w6)) hs6))).mono ?_; rintro e w7 ⟨v7, rfl, hrow7, hb7⟩; have hb57 : Below w5.heap.size w5 w7 := Below.trans (Below.trans HB6.out (Below.mono (Below.drew (Below.refl _ w6)) hs6)) (Below.mono hb7 hs6); have hc7 : w7.cell? ⟨w1.heap.size + 1, 0, none⟩ = some v1 := (hb7.cell (p := ⟨w1.heap.size + 1, 0, none⟩) (World.block_lt_of_cell? w6 _ hcc0)).trans hcc0; have hs7 := hb7.size)
              | (go_at_call 14; refine (HSM.out w7 v7 hb57 hrow7).mono ?_; rw [bk.sameL_refl]; rintro e w8 ⟨rfl, hb8⟩; have hb58 : Below w5.heap.size w5 w8 := Below.trans hb57 (Below.mono hb8 hb57.size); have hc8 : w8.cell? ⟨w1.heap.size + 1, 0, none⟩ = some v1 := (hb8.cell (p := ⟨w1.heap.size + 1, 0, none⟩) (World.block_lt_of_cell? w7 _ hc7)).trans hc7)
              | (go_at_call 15; refine (HTM.out w8 hb58).mono ?_; rintro e w9 ⟨rfl, hb9⟩; have hb59 : Below w5.heap.size w5 w9 := Below.trans hb58 (Below.mono hb9 hb58.size); have hc9 : w9.cell? ⟨w1.heap.size + 1, 0, none⟩ = some v1 := (hb9.cell (p := ⟨w1.heap.size + 1, 0, none⟩) (World.block_lt_of_cell? w8 _ hc8)).trans hc8))
          have HEND := Lib.hid (HP.out.on hb59)
          clear hb59 hb58 hb57 hc7 hc8 hc9 hrow7 hb7 hb8 hb9
          go_wp2_with fail
          go_roundw
          case rel => exact ⟨k + 1, L9, C9, _, _, F9, G9, HH', by omega, by go_num, HEND⟩
          case measure => simp only [RowKit.intOf]; omega
      · have hidx := idx_none hmem 0
        have HIDX := Lib.hid hidx
        clear hidx hmem
        have hsb := HS.out.below.size
        go_wp2_with fail
        refine (ref_new HS.out.notes HIDX.out hLn hxs HS.out.names hsb).mono ?_
        rintro e w2 ⟨rfl, ⟨F9, hN2, hF2⟩, hf2⟩
        obtain ⟨P, hP⟩ : ∃ P : Int, (L.length : Int) + 1 = P := ⟨_, rfl⟩
        obtain ⟨Q, hQ⟩ : ∃ Q : Int, (1 : Int) = Q := ⟨_, rfl⟩
        have hs2 := hf2.size
        have cR := rref_new (HS.out.mid hf2) HIDX.out hLn (Nat.le_trans hsb hs2)
        have HFD := Lib.hid (fun w3 G9 h2 hG f2 => HS.out.new (w2 := w3) (G' := G9) hxs hN2 hF2 hf2 h2 hG f2)
        rw [hP] at *
        replace hP := Lib.hid hP
        clear hN2 hf2 hF2
        go_wp2_with fail
        refine cR.mono ?_
        rintro e w3 ⟨rfl, ⟨G9, hN3, hG3⟩, hf3⟩
        have HM := Lib.hid (HFD.out _ _ hN3 hG3 hf3)
        clear hN3 hf3 cR HFD hG3
        generalize C ++ [1] = C9 at *
        generalize L ++ [s] = L9 at *
        have hLn : L9.length ≤ 100000 := by have := HM.out.len; omega
        have hLk : L9.length ≤ 61 := by have := HM.out.len; omega
        have hPP : (P != P) = false := by simp
        have hQQ : (Q != Q) = false := by simp
        have HBK := Lib.hid (fun g (h : HH g) => (HM.out.book.lt g h).2)
        go_wp2_with fail
        refine (all_any HM.out.notes hLn).mono ?_
        rintro e w4 ⟨v, rfl, hv, hb4⟩
        have HM4 := Lib.hid (HM.out.on hb4)
        have hs4 := hb4.size
        have hw3 := HM.out.below.size
        have hrow := bk.row_base (b' := W.heap.size) hv hw3
        have hvn := Lib.hid (fun g (hg : v.ownBlock = some g) => (hv.lt g hg).1)
        have HV := Lib.hid hrow
        clear hv hb4 hrow
        go_wp2_with fail
        have hcnt := HM4.out.cnt
        have hw4 := HM4.out.below.size
        refine (bk.texts_any HM4.out.book v L9 HV.out (fun g hg hF => by have h1 := hvn.out g hg; have h2 := HBK.out g hF; omega) (by omega) hLn hw4).mono ?_
        rintro e w5 ⟨rfl, ⟨HH', hB5, hH5⟩, hf5⟩
        have HP := Lib.hid (HM4.out.kept hB5 hH5 hf5 (fun g hg => ⟨fun h => by have h1 := hvn.out g hg; have h2 := (HM.out.notes.lt g h).2; omega, fun h => by have h1 := hvn.out g hg; have h2 := (HM.out.refs.lt g h).2; omega⟩))
        clear hB5 hH5 hf5 hcnt
        obtain ⟨v1, v2, hrb, hr1, hr2, -⟩ := HP.out.refs.rows
        have c0 := (cells_two hrb).1
        have c1 := (cells_two hrb).2.1
        have hrblt := (Array.getElem?_eq_some_iff.1 hrb).1
        have HR1 := Lib.hid hr1
        have HR2 := Lib.hid hr2
        have HRN := Lib.hid (bk.namesIn_row hr1)
        clear hrb hr1 hr2
        go_wp2_with fail
        refine (bk.refAt_any v1 L9 ask HRN.out hLn).mono ?_
        rw [idxN_is]
        rintro e w6 ⟨rfl, hb6⟩
        have HB6 := Lib.hid hb6
        have hcc0 := (hb6.cell (p := ⟨w1.heap.size + 1, 0, none⟩) hrblt).trans c0
        have hcc1 := (hb6.cell (p := ⟨w1.heap.size + 1, 1, none⟩) hrblt).trans c1
        have hs6 := hb6.size
        have hlen9 := HP.out.notes.len
        have HALL := Lib.hid (fun (w' : World) (hb : Below w5.heap.size w5 w') => all_any (HP.out.notes.frame (Frame.of_below (F := fun _ => False) hb) (fun _ _ h => h)) hLn)
        have HSM := Lib.hid (fun (w' : World) (v7 : Value) (hb : Below w5.heap.size w5 w') (hr : w'.ownsRow w6.heap.size 9 1 v7 L9.length (L9.map .string)) => bk.same_any (w := w') v7 v1 L9 L9 (bk.namesIn_row hr) (bk.namesIn_row (row_kept HR1.out (fun g hg => hb.block g (HR1.out.lt g hg).2))) hLn hLn)
        have HTM := Lib.hid (fun (w' : World) (hb : Below w5.heap.size w5 w') => times_any (nm := ask) (HP.out.notes.frame (Frame.of_below (F := fun _ => False) hb) (fun _ _ h => h)) hLn (by omega) HP.out.names)
        clear c0 c1 hb6
        by_cases hmem : ask ∈ L9
        · obtain ⟨i, hi, hidx, -, -⟩ := idx_some hmem 0
          rw [Nat.zero_add] at hidx
          have hiC : i < C9.length := by rw [hlen9]; exact hi
          obtain ⟨g2, cap2, rfl, -⟩ := row_some HR2.out (by rw [List.length_map]; omega)
          have hg2 := (HR2.out.lt g2 rfl).2
          have cT : w6.cell? ⟨g2, i, none⟩ = some (.int .i64 C9[i]) := by
            rw [HB6.out.cell (p := ⟨g2, i, none⟩) hg2, HR2.out.cellAt i (by omega), List.getElem?_map, List.getElem?_eq_getElem hiC]; rfl
          have hT9 : timesZ ask L9 C9 = C9[i] := by
            unfold timesZ
            rw [hidx, if_pos (by omega), Int.toNat_natCast, List.getD_eq_getElem?_getD, List.getElem?_eq_getElem hiC]; rfl
          have hiCi : (i : Int) < C9.length := by omega
          have hi0 : (0 : Int) ≤ (i : Int) := by omega
          rw [hidx]
          replace hlen9 := Lib.hid hlen9
          replace hidx := Lib.hid hidx
          obtain ⟨T, hT⟩ : ∃ T : Int, C9[i] = T := ⟨_, rfl⟩
          rw [hT] at cT hT9
          rw [hT9] at HTM
          replace hT := Lib.hid hT
          replace hT9 := Lib.hid hT9
          have hTT : (T != T) = false := by simp
          go_wp2_with fail
          go_region_held3 (fun w' => w'.cell? ⟨w1.heap.size + 1, 0, none⟩ = some v1) (go_keep)
            (first
              | (go_at_call 12; refine (HALL.out w6.drew (Below.trans HB6.out (Below.mono (Below.drew (Below.refl _ w6)) hs6))).mono ?_; rintro e w7 ⟨v7, rfl, hrow7, hb7⟩; have hb57 : Below w5.heap.size w5 w7 := Below.trans (Below.trans HB6.out (Below.mono (Below.drew (Below.refl _ w6)) hs6)) (Below.mono hb7 hs6); have hc7 : w7.cell? ⟨w1.heap.size + 1, 0, none⟩ = some v1 := (hb7.cell (p := ⟨w1.heap.size + 1, 0, none⟩) (World.block_lt_of_cell? w6 _ hcc0)).trans hcc0; have hs7 := hb7.size)
              | (go_at_call 14; refine (HSM.out w7 v7 hb57 hrow7).mono ?_; rw [bk.sameL_refl]; rintro e w8 ⟨rfl, hb8⟩; have hb58 : Below w5.heap.size w5 w8 := Below.trans hb57 (Below.mono hb8 hb57.size); have hc8 : w8.cell? ⟨w1.heap.size + 1, 0, none⟩ = some v1 := (hb8.cell (p := ⟨w1.heap.size + 1, 0, none⟩) (World.block_lt_of_cell? w7 _ hc7)).trans hc7)
              | (go_at_call 15; refine (HTM.out w8 hb58).mono ?_; rintro e w9 ⟨rfl, hb9⟩; have hb59 : Below w5.heap.size w5 w9 := Below.trans hb58 (Below.mono hb9 hb58.size); have hc9 : w9.cell? ⟨w1.heap.size + 1, 0, none⟩ = some v1 := (hb9.cell (p := ⟨w1.heap.size + 1, 0, none⟩) (World.block_lt_of_cell? w8 _ hc8)).trans hc8))
          have HEND := Lib.hid (HP.out.on hb59)
          clear hb59 hb58 hb57 hc7 hc8 hc9 hrow7 hb7 hb8 hb9
          go_wp2_with fail
          go_roundw
          case rel => exact ⟨k + 1, L9, C9, _, _, F9, G9, HH', by omega, by go_num, HEND⟩
          case measure => simp only [RowKit.intOf]; omega
        · have hidx := idx_none hmem 0
          have hT9 : timesZ ask L9 C9 = 0 := by unfold timesZ; rw [hidx, if_neg (by omega)]
          rw [hidx]
          replace hlen9 := Lib.hid hlen9
          replace hidx := Lib.hid hidx
          rw [hT9] at HTM
          replace hT9 := Lib.hid hT9
          replace hmem := Lib.hid hmem
          go_wp2_with fail
          go_region_held3 (fun w' => w'.cell? ⟨w1.heap.size + 1, 0, none⟩ = some v1) (go_keep)
            (first
              | (go_at_call 12; refine (HALL.out w6.drew (Below.trans HB6.out (Below.mono (Below.drew (Below.refl _ w6)) hs6))).mono ?_; rintro e w7 ⟨v7, rfl, hrow7, hb7⟩; have hb57 : Below w5.heap.size w5 w7 := Below.trans (Below.trans HB6.out (Below.mono (Below.drew (Below.refl _ w6)) hs6)) (Below.mono hb7 hs6); have hc7 : w7.cell? ⟨w1.heap.size + 1, 0, none⟩ = some v1 := (hb7.cell (p := ⟨w1.heap.size + 1, 0, none⟩) (World.block_lt_of_cell? w6 _ hcc0)).trans hcc0; have hs7 := hb7.size)
              | (go_at_call 14; refine (HSM.out w7 v7 hb57 hrow7).mono ?_; rw [bk.sameL_refl]; rintro e w8 ⟨rfl, hb8⟩; have hb58 : Below w5.heap.size w5 w8 := Below.trans hb57 (Below.mono hb8 hb57.size); have hc8 : w8.cell? ⟨w1.heap.size + 1, 0, none⟩ = some v1 := (hb8.cell (p := ⟨w1.heap.size + 1, 0, none⟩) (World.block_lt_of_cell? w7 _ hc7)).trans hc7)
              | (go_at_call 15; refine (HTM.out w8 hb58).mono ?_; rintro e w9 ⟨rfl, hb9⟩; have hb59 : Below w5.heap.size w5 w9 := Below.trans hb58 (Below.mono hb9 hb58.size); have hc9 : w9.cell? ⟨w1.heap.size + 1, 0, none⟩ = some v1 := (hb9.cell (p := ⟨w1.heap.size + 1, 0, none⟩) (World.block_lt_of_cell? w8 _ hc8)).trans hc8))
          have HEND := Lib.hid (HP.out.on hb59)
          clear hb59 hb58 hb57 hc7 hc8 hc9 hrow7 hb7 hb8 hb9
          go_wp2_with fail
          go_roundw
          case rel => exact ⟨k + 1, L9, C9, _, _, F9, G9, HH', by omega, by go_num, HEND⟩
          case measure => simp only [RowKit.intOf]; omega
    · obtain rfl : k = l.length := by omega
      have HB9 := Lib.hid HS.out.below
      have hcnt := HS.out.cnt
      have hvs : vs.length ≤ 250 := by omega
      have hfin := Lib.hid (fun (w' : World) (hb : Below wr.heap.size wr w') => bk.apart_texts (HS.out.book.below hb) hvs (fun M hM => by have := HS.out.lens M hM; omega) (Nat.le_trans HS.out.below.size hb.size))
      have hhlt := Lib.hid (fun q hq => (HS.out.book.lt q hq).1)
      obtain ⟨Y1, hY1⟩ : ∃ Y : ByteArray, Y.data.toList = idL x := ⟨⟨(idL x).toArray⟩, ba_mk _⟩
      obtain ⟨Y2, hY2⟩ : ∃ Y : ByteArray, Y.data.toList = backL x y := ⟨⟨(backL x y).toArray⟩, ba_mk _⟩
      have HY1 := Lib.hid hY1
      have HY2 := Lib.hid hY2
      replace hcnt := Lib.hid hcnt
      clear hY1 hY2
      have e1 : (Y1.toList == Y1.toList) = true := by simp
      have e2 : (Y2.toList == Y2.toList) = true := by simp
      have hwr := HS.out.below.size
      go_wp2_with fail
      refine (none_ref _ _).mono ?_
      rintro e u1 ⟨rfl, hu1⟩
      have HU1 := Lib.hid hu1
      clear hu1
      go_wp2_with fail
      refine (none_times _ _).mono ?_
      rintro e u2 ⟨rfl, hu2⟩
      have HU2 := Lib.hid (HU1.out.trans (hu2.mono HU1.out.size))
      clear hu2
      go_wp2_with fail
      refine (none_all _).mono ?_
      rintro e u3 ⟨rfl, hu3⟩
      have HU3 := Lib.hid (HU2.out.trans (hu3.mono HU2.out.size))
      clear hu3
      go_wp2_with fail
      refine (id_from (w0 := wr) x (by omega) hx1 HU3.out (hT.on HB9.out) HY1.out).mono ?_
      rintro e u4 ⟨rfl, hu4⟩
      have HU4 := Lib.hid hu4
      clear hu4
      go_wp2_with fail
      refine (rid_from (w0 := wr) x hx0 hx1 HU4.out HY1.out).mono ?_
      rintro e u5 ⟨rfl, hu5⟩
      have HU5 := Lib.hid hu5
      clear hu5
      go_wp2_with fail
      refine (back_from (w0 := wr) x y (by omega) hx1 (by omega) hy1 HU5.out (hT.on HB9.out) HY2.out).mono ?_
      rintro e u6 ⟨rfl, hu6⟩
      have HU6 := Lib.hid hu6
      clear hu6
      go_wp2_with fail
      refine (rback_from (w0 := wr) x y hx0 hx1 hy0 hy1 HU6.out HY2.out).mono ?_
      rintro e u7 ⟨rfl, hu7⟩
      have HU7 := Lib.hid hu7
      clear hu7
      go_wp2_with fail
      refine (hfin.out _ HU7.out).mono ?_
      rintro e u8 ⟨rfl, hf8⟩
      have HB8 := Lib.hid (hf8.on_below (fun q hq => hhlt.out q hq) (HB9.out.trans (HU7.out.mono hwr)) (Nat.le_refl _))
      clear hf8
      go_wp2_with fail
      go_ret
      exact ⟨rfl, HB8.out⟩

theorem notePlays_walk (v : Value) (ask : ByteArray) (x y : Int) (W : World) (hT : Tabs W) (h : ∃ l : List ByteArray, RowIn W W.heap.size v (l.map Value.string) ∧ ∀ s ∈ l, s.size ≤ 9223372036854775807) (ha : ask.size ≤ 9223372036854775807)
    (hx : -9223372036854775808 ≤ x ∧ x ≤ 9223372036854775807) (hy : -9223372036854775808 ≤ y ∧ y ≤ 9223372036854775807) :
    Calls Tryd.prog 4 #[v, .string ask, .int .i64 x, .int .i64 y] W fun e w' => e = .returned (.bool true) ∧ Below W.heap.size W w' := by
  obtain ⟨l, ⟨a, cap, rfl, hlc, hcm, hr⟩, hs⟩ := h
  simp only [List.length_map] at *
  by_cases hin : l.length ≤ 60 ∧ ask.size ≤ 60 ∧ -1099511627776 ≤ x ∧ -1099511627776 ≤ y
  · refine play_main a cap l ask x y W hT hin.1 hin.2.1 hin.2.2.1 hx.2 hin.2.2.2 hy.2 hs ?_
    rcases hr with hr | ⟨b, o, ha, hb, hc⟩
    · exact .inl (by simpa using hr)
    · exact .inr ⟨b, o, ha, hb, fun i h => by
      have h9 := hc i h
      rw [List.getElem_map] at h9
      exact h9⟩
  · have hB0 := Below.refl W.heap.size W
    clear hr
    have hl9 : (l.length : Int) ≤ 9223372036854775807 := by unfold maxLen at *; omega
    by_cases h0 : 60 < l.length
    · skip
      have f0 : decide ((60 : Int) < (l.length : Int)) = true := by simp only [decide_eq_true_eq]; omega
      replace h0 := Lib.hid h0
      clear hin
      go_enter Tryd.func4, Tryd.ntmps4
      go_wp2_with fail
      refine (alive_from (by assumption) hT).mono ?_
      rintro e w1 ⟨rfl, hb1⟩
      go_wp2_with fail
      go_ret
      exact ⟨rfl, by assumption⟩
    by_cases h1 : 60 < ask.size
    · skip
      have f0 : decide ((60 : Int) < (l.length : Int)) = false := by simp only [decide_eq_false_iff_not]; omega
      have f1 : decide ((60 : Int) < (ask.size : Int)) = true := by simp only [decide_eq_true_eq]; omega
      replace h0 := Lib.hid h0
      replace h1 := Lib.hid h1
      clear hin
      go_enter Tryd.func4, Tryd.ntmps4
      go_wp2_with fail
      refine (alive_from (by assumption) hT).mono ?_
      rintro e w1 ⟨rfl, hb1⟩
      go_wp2_with fail
      go_ret
      exact ⟨rfl, by assumption⟩
    by_cases h2 : x < -1099511627776
    · skip
      have f0 : decide ((60 : Int) < (l.length : Int)) = false := by simp only [decide_eq_false_iff_not]; omega
      have f1 : decide ((60 : Int) < (ask.size : Int)) = false := by simp only [decide_eq_false_iff_not]; omega
      have f2 : decide (x < -1099511627776) = true := by simp only [decide_eq_true_eq]; omega
      replace h0 := Lib.hid h0
      replace h1 := Lib.hid h1
      replace h2 := Lib.hid h2
      clear hin
      go_enter Tryd.func4, Tryd.ntmps4
      go_wp2_with fail
      refine (alive_from (by assumption) hT).mono ?_
      rintro e w1 ⟨rfl, hb1⟩
      go_wp2_with fail
      go_ret
      exact ⟨rfl, by assumption⟩
    have h3 : y < -1099511627776 := by omega
    · skip
      have f0 : decide ((60 : Int) < (l.length : Int)) = false := by simp only [decide_eq_false_iff_not]; omega
      have f1 : decide ((60 : Int) < (ask.size : Int)) = false := by simp only [decide_eq_false_iff_not]; omega
      have f2 : decide (x < -1099511627776) = false := by simp only [decide_eq_false_iff_not]; omega
      have f3 : decide (y < -1099511627776) = true := by simp only [decide_eq_true_eq]; omega
      replace h0 := Lib.hid h0
      replace h1 := Lib.hid h1
      replace h2 := Lib.hid h2
      replace h3 := Lib.hid h3
      clear hin
      go_enter Tryd.func4, Tryd.ntmps4
      go_wp2_with fail
      refine (alive_from (by assumption) hT).mono ?_
      rintro e w1 ⟨rfl, hb1⟩
      go_wp2_with fail
      go_ret
      exact ⟨rfl, by assumption⟩
end Go.Proofs.YtkplnimjliabnaaDoor

