/- bowdlerbook.markedTexts: the walk. -/
import Derived.Test.YtkplnimjliabnaaDoorBkGrow
namespace Go.Proofs.YtkplnimjliabnaaDoor.bk
open Go.RowKit Go.Lib

set_option maxRecDepth 100000 in
set_option maxHeartbeats 2000000 in
theorem marked_texts {base base' : Nat} {w : World} {vo : Value} {os : List Value} (ho : w.ownsRow base' 26 1 vo os.length os) (hr : ∀ (j : Nat) (u : Value), os[j]? = some u → ∃ N, N ≤ 100000 ∧ w.ownsRow base 9 1 u N ((marks j 0 N).map .string)) (hn : os.length ≤ 250) :
    Calls Tryd.prog 48 #[vo] w fun e w' => e = .returned (.bool true) ∧ Below w.heap.size w w' := by
  obtain ⟨a1, cap1, rfl, hc1⟩ := row_form ho
  have HO := Lib.hid ho
  have HR := Lib.hid hr
  have hni : (os.length : Int) ≤ 250 := by omega
  clear ho hr
  go_enter Tryd.func48, Tryd.ntmps48
  go_wp2_with fail
  go_loopw [3] (fun i wr => ∃ k : Nat, k ≤ os.length ∧ i = .int .i64 k ∧ Below w.heap.size w wr) (fun i _ => os.length - (RowKit.intOf i).toNat)
  case atStart => exact ⟨0, Nat.zero_le _, rfl, Below.refl _ _⟩
  case round =>
    obtain ⟨k, hk, rfl, hBw⟩ := hrel
    by_cases hlt : k < os.length
    · obtain ⟨g1, cc1, he1, -⟩ := row_some HO.out (by omega)
      cases he1
      have hg1 := (HO.out.lt g1 rfl).2
      have ck : wr.cell? ⟨g1, k, none⟩ = some os[k] := by
        rw [hBw.cell (p := ⟨g1, k, none⟩) hg1, HO.out.cellAt k (by omega), List.getElem?_eq_getElem hlt]
      obtain ⟨N, hN, hrow⟩ := HR.out k _ (List.getElem?_eq_getElem hlt)
      have hki : (k : Int) < os.length := by omega
      have hk0 : (0 : Int) ≤ (k : Int) := by omega
      have R0 := Lib.hid (row_on hrow hBw)
      clear hrow
      generalize os[k] = u at *
      obtain ⟨au, cu, rfl, hcu⟩ := row_form R0.out
      have HGL := Lib.hid (show g1 < wr.heap.size from Nat.lt_of_lt_of_le hg1 hBw.size)
      have HB0 := Lib.hid hBw
      have HSE := Lib.hid (fun (w2 : World) (v2 : Value) (hb : Below wr.heap.size wr w2) (h : w2.ownsRow wr.heap.size 9 1 v2 N ((marks k 0 N).map .string)) => same_any (w := w2) (.slice au N cu) v2 (marks k 0 N) (marks k 0 N) (namesIn_row (by rw [marks_len]; exact row_on R0.out hb)) (namesIn_row (by rw [marks_len]; exact h)) (by rw [marks_len]; exact hN) (by rw [marks_len]; exact hN))
      clear hBw hg1
      go_wp2_with fail
      go_region_held3 (fun w' => w'.cell? ⟨g1, k, none⟩ = some (.slice au N cu)) (go_keep)
        (first
          | (go_at_call 68; refine (mark_any k 0 N (by omega) (by omega)).mono ?_; rintro e w1 ⟨mv, rfl, hM, hb1d⟩; have hb1 : Below wr.heap.size wr w1 := Below.trans (Below.drew (Below.refl _ wr)) hb1d; have hc1 : w1.cell? ⟨g1, k, none⟩ = some (.slice au N cu) := (hb1.cell (p := ⟨g1, k, none⟩) HGL.out).trans ck)
          | (go_at_call 14; refine (HSE.out w1 mv hb1 hM).mono ?_; rw [sameL_refl]; rintro e w2 ⟨rfl, hb2⟩; have hc2 : w2.cell? ⟨g1, k, none⟩ = some (.slice au N cu) := (hb2.cell (p := ⟨g1, k, none⟩) (World.block_lt_of_cell? _ _ hc1)).trans hc1))
      have HBE := Lib.hid (HB0.out.trans ((hb1.trans (hb2.mono hb1.size)).mono HB0.out.size))
      clear hb1 hb2 hb1d hc1 hc2 ck hM
      go_wp2_with fail
      go_roundw
      case rel => exact ⟨k + 1, by omega, by go_num, HBE.out⟩
      case measure => simp only [RowKit.intOf]; omega
    · go_wp2_with fail
      go_ret
      exact ⟨rfl, hBw⟩
end Go.Proofs.YtkplnimjliabnaaDoor.bk
