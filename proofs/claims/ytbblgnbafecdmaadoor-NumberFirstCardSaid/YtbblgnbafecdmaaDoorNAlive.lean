/- alive: the walk. -/
import Derived.Test.YtbblgnbafecdmaaDoorSecs
import Derived.Test.YtbblgnbafecdmaaDoorSame
import Derived.Laws.StructEq
namespace Go.Proofs.YtbblgnbafecdmaaDoor
open Go.RowKit Go.Lib

theorem slug_A : slugL [65] = [97] := by decide +kernel
theorem itoa_2 : Lib.itoa 2 = [50] := by decide +kernel
theorem chain_ex : Chain [[65], [65]] [[97], [97, 45, 50]] := by
  refine (Chain.nil.snoc (t := [65]) (id := [97]) ?_).snoc (t := [65]) (id := [97, 45, 50]) ?_
  · rw [slug_A]
    exact ⟨1, Nat.le_refl _, by unfold cand; rw [if_pos (Nat.le_refl 1)], by simp, fun j h1 h2 => by omega⟩
  · rw [slug_A]
    refine ⟨2, by omega, ?_, ?_, fun j h1 h2 => ?_⟩
    · unfold cand; rw [if_neg (by omega)]
      show _ = _ ++ 45 :: Lib.itoa 2
      rw [itoa_2]; rfl
    · unfold cand; rw [if_neg (by omega)]
      show ¬ _ ++ 45 :: Lib.itoa 2 ∈ _
      rw [itoa_2]; decide
    · obtain rfl : j = 1 := by omega
      unfold cand; rw [if_pos (Nat.le_refl 1)]; simp
theorem allN_13 : allN [1, 3] = [[49], [49, 46, 49]] := by decide +kernel
theorem allN_ex : allN [1, 2, 2, 1, 3] = [[49], [49, 46, 49], [49, 46, 50], [50], [50, 46, 49]] := by decide +kernel
abbrev sA : ByteArray := ⟨#[65]⟩
theorem secs_ex {ids : List (List UInt8)} (h : Chain ([(⟨1, sA⟩ : Hd), ⟨3, sA⟩].map (·.text.data.toList)) ids) :
    secsOf [⟨1, sA⟩, ⟨3, sA⟩] ids = [⟨1, ⟨#[49]⟩, ⟨#[97]⟩, sA⟩, ⟨3, ⟨#[49, 46, 49]⟩, ⟨#[97, 45, 50]⟩, sA⟩] := by
  have h2 : ids = [[97], [97, 45, 50]] := Chain.uniq h chain_ex
  subst h2
  unfold secsOf
  show List.map _ (List.zip _ ((allN [1, 3]).zip _)) = _
  rw [allN_13]
  rfl

set_option maxRecDepth 100000 in
set_option maxHeartbeats 2000000 in
theorem alive_any {w : World} (hT : Tabs w) : Calls Tryd.prog 5 #[] w fun e w' => e = .returned (.bool true) ∧ Below w.heap.size w w' := by
  have HT := Lib.hid hT
  have HLOW := Lib.hid hT.low
  clear hT
  go_enter Tryd.func5, Tryd.ntmps5
  go_wp2_with fail
  have HB0 := Lib.hid ((Below.refl w.heap.size w).alloc (Nat.le_refl _) (.cells #[.int .i64 1, .string sA, .int .i64 3, .string sA] 34))
  have hH0 : Hid (HdsIn (w.alloc (.cells #[.int .i64 1, .string sA, .int .i64 3, .string sA] 34)) (.slice (some ⟨w.heap.size, 0, none⟩) 2 2) [⟨1, sA⟩, ⟨3, sA⟩]) := by
    refine Or.inr ⟨w.heap.size, 0, 2, rfl, by simp, fun i hi => ?_⟩
    have hi : i < 2 := hi
    have h9 : i = 0 ∨ i = 1 := by omega
    rcases h9 with rfl | rfl
    · exact ⟨by rw [cell_of_row _ _ _ _ _ _ (heap_alloc_new w _)]; rfl, by rw [cell_of_row _ _ _ _ _ _ (heap_alloc_new w _)]; rfl⟩
    · exact ⟨by rw [cell_of_row _ _ _ _ _ _ (heap_alloc_new w _)]; rfl, by rw [cell_of_row _ _ _ _ _ _ (heap_alloc_new w _)]; rfl⟩
  refine (secs_any (HT.out.on HB0.out) _ [⟨1, sA⟩, ⟨3, sA⟩] hH0.out (by simp) (by intro h hh; simp at hh; rcases hh with rfl | rfl <;> decide)).mono ?_
  rintro e w1 ⟨v, ids, rfl, hch, hrow, hb1⟩
  rw [secs_ex hch] at hrow
  obtain ⟨g, cap, rfl, hcap⟩ := row_some hrow (by simp [Sec.cells])
  have HR := Lib.hid hrow
  have HB1 := Lib.hid (HB0.out.trans (hb1.mono HB0.out.size))
  clear hch hrow hb1
  have HB2 := Lib.hid (HB1.out.alloc HB1.out.size (.cells #[.int .i64 1, .int .i64 2, .int .i64 2, .int .i64 1, .int .i64 3] 3))
  have hI : Hid (IntsIn (w1.alloc (.cells #[.int .i64 1, .int .i64 2, .int .i64 2, .int .i64 1, .int .i64 3] 3)) (.slice (some ⟨w1.heap.size, 0, none⟩) 5 5) [1, 2, 2, 1, 3]) := by
    refine Or.inr ⟨w1.heap.size, 0, 5, rfl, by simp, fun i hi => ?_⟩
    have hi : i < 5 := hi
    have h9 : i = 0 ∨ i = 1 ∨ i = 2 ∨ i = 3 ∨ i = 4 := by omega
    rcases h9 with rfl | rfl | rfl | rfl | rfl <;> (rw [cell_of_row _ _ _ _ _ _ (heap_alloc_new w1 _)]; rfl)
  go_wp2_with fail
  refine (all_any (HT.out.under HLOW.out HB2.out) _ [1, 2, 2, 1, 3] hI.out (by simp)).mono ?_
  rintro e w2 ⟨v2, rfl, hrow2, hb2⟩
  rw [allN_ex] at hrow2
  have HN2 := Lib.hid (namesIn_row (L := texts [[49], [49, 46, 49], [49, 46, 50], [50], [50, 46, 49]]) hrow2)
  have HR2 := Lib.hid (row_kept (HR.out.alloc (.cells #[.int .i64 1, .int .i64 2, .int .i64 2, .int .i64 1, .int .i64 3] 3)) (fun g hg => hb2.block g ((HR.out.alloc _).lt g hg).2))
  have HB3 := Lib.hid (HB2.out.trans (hb2.mono HB2.out.size))
  clear hrow2 hb2 hI
  have HB4 := Lib.hid (HB3.out.alloc HB3.out.size (.cells #[.string ⟨#[49]⟩, .string ⟨#[49, 46, 49]⟩, .string ⟨#[49, 46, 50]⟩, .string ⟨#[50]⟩, .string ⟨#[50, 46, 49]⟩] 9))
  have hM : Hid (NamesIn (w2.alloc (.cells #[.string ⟨#[49]⟩, .string ⟨#[49, 46, 49]⟩, .string ⟨#[49, 46, 50]⟩, .string ⟨#[50]⟩, .string ⟨#[50, 46, 49]⟩] 9)) (.slice (some ⟨w2.heap.size, 0, none⟩) 5 5) (texts [[49], [49, 46, 49], [49, 46, 50], [50], [50, 46, 49]])) := by
    refine Or.inr ⟨w2.heap.size, 0, 5, rfl, by simp, fun i hi => ?_⟩
    have hi : i < 5 := hi
    have h9 : i = 0 ∨ i = 1 ∨ i = 2 ∨ i = 3 ∨ i = 4 := by omega
    rcases h9 with rfl | rfl | rfl | rfl | rfl <;> (rw [cell_of_row _ _ _ _ _ _ (heap_alloc_new w2 _)]; rfl)
  go_wp2_with fail
  refine (same_any _ _ _ _ (HN2.out.below ((Below.refl _ _).alloc (Nat.le_refl _) _)) hM.out (by simp [texts]) (by simp [texts])).mono ?_
  rw [sameL_refl]
  rintro e w3 ⟨rfl, hb3⟩
  have HR3 := row_kept (HR2.out.alloc (.cells #[.string ⟨#[49]⟩, .string ⟨#[49, 46, 49]⟩, .string ⟨#[49, 46, 50]⟩, .string ⟨#[50]⟩, .string ⟨#[50, 46, 49]⟩] 9)) (fun g hg => hb3.block g ((HR2.out.alloc _).lt g hg).2)
  have c4 : w3.cell? ⟨g, 4, none⟩ = some (.int .i64 3) := HR3.cellAt 4 (by simp)
  have c5 : w3.cell? ⟨g, 5, none⟩ = some (.string ⟨#[49, 46, 49]⟩) := HR3.cellAt 5 (by simp)
  have c6 : w3.cell? ⟨g, 6, none⟩ = some (.string ⟨#[97, 45, 50]⟩) := HR3.cellAt 6 (by simp)
  have c7 : w3.cell? ⟨g, 7, none⟩ = some (.string ⟨#[65]⟩) := HR3.cellAt 7 (by simp)
  have HB5 := Lib.hid (HB4.out.trans (hb3.mono HB4.out.size))
  clear HR3 hb3 hM
  go_wp2_with fail
  go_ret
  exact ⟨rfl, HB5.out⟩
end Go.Proofs.YtbblgnbafecdmaaDoor
