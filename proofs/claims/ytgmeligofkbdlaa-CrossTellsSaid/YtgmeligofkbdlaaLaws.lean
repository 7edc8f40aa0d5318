/- The laws' own walks of chapter 21. -/
import Derived.Test.YtgmeligofkbdlaaWalks
import Derived.BigQuiet
import Derived.Deep.QuietTactic
import Derived.Deep.RegionWith
namespace Go.Proofs.Ytgmeligofkbdlaa
open Go.RowKit

abbrev bA : ByteArray := ⟨#[97]⟩
abbrev bB : ByteArray := ⟨#[98]⟩
abbrev b12 : ByteArray := ⟨#[49, 46, 50]⟩
abbrev bBB : ByteArray := ⟨#[66]⟩
abbrev b0 : ByteArray := ⟨#[]⟩

theorem find_mid (anchor : ByteArray) (pre post : List Sec) :
    (findSec anchor (pre ++ ⟨0, b0, anchor, ⟨#[109, 105, 110, 101]⟩⟩ :: post)).2 = true ∧ ((findSec anchor (pre ++ ⟨0, b0, anchor, ⟨#[109, 105, 110, 101]⟩⟩ :: post)).1.anchor.toList == anchor.toList) = true ∧
    ((pre.any fun s => s.anchor.toList == anchor.toList) = false → (findSec anchor (pre ++ ⟨0, b0, anchor, ⟨#[109, 105, 110, 101]⟩⟩ :: post)).1.text = ⟨#[109, 105, 110, 101]⟩) := by
  induction pre with
  | nil => simp [findSec]
  | cons s l ih =>
    simp only [List.cons_append, findSec]
    split
    · next h => exact ⟨rfl, h, by simp [h]⟩
    · next h => exact ⟨ih.1, ih.2.1, fun h' => ih.2.2 (by simpa [h] using h')⟩

set_option maxHeartbeats 400000 in
theorem alive_any (w : World) :
    Calls Try.prog 5 #[] w fun e w' => e = .returned (.bool true) ∧ Below w.heap.size w w' := by
  go_enter Try.func5, Try.ntmps5
  go_wp2_with fail
  refine (find_any bB _ [⟨0, b0, bA, b0⟩, ⟨0, b12, bB, bBB⟩] _ ?_).mono ?_
  · exact secsIn_alloc w [⟨0, b0, bA, b0⟩, ⟨0, b12, bB, bBB⟩] 2 _ _ (by simp) (by decide) (by decide)
  rintro e w1 ⟨rfl, hb1⟩
  have hs1 : w.heap.size < w1.heap.size := by have := hb1.size; simp at this; omega
  rw [show findSec bB [⟨0, b0, bA, b0⟩, ⟨0, b12, bB, bBB⟩] = (⟨0, b12, bB, bBB⟩, true) from by kernel_rfl]
  simp only [Sec.val]
  go_wp2_with fail
  refine (call_any ⟨0, b12, bB, bBB⟩ true _).mono ?_
  rintro e w2 ⟨rfl, hb2⟩
  rw [show callSec ⟨0, b12, bB, bBB⟩ true = b12 from by kernel_rfl]
  have hk2 := (hb2.block w1.heap.size (by simp)).trans (heap_alloc_new _ _)
  obtain ⟨d0, d1, d2, d3, -, -, -, -, hz2⟩ := block4 hk2
  have hB2 : Below w.heap.size w w2 := (((Below.refl _ _).alloc (Nat.le_refl _) _).trans ((hb1.mono (by simp)).alloc (by omega) _)).trans (hb2.mono (by simp; omega))
  clear hb2 hk2 hb1
  go_wp2_with fail
  refine (call_any ⟨0, b12, bB, bBB⟩ false _).mono ?_
  rintro e w3 ⟨rfl, hb3⟩
  rw [show callSec ⟨0, b12, bB, bBB⟩ false = bBB from by kernel_rfl]
  have hB3 : Below w.heap.size w w3 := hB2.trans (hb3.mono hB2.size)
  clear hb3 hB2 d0 d1 d2 d3
  go_wp2_with fail
  refine (call_any Sec.zero true _).mono ?_
  rintro e w4 ⟨rfl, hb4⟩
  rw [show callSec Sec.zero true = ⟨#[115, 101, 99, 116, 105, 111, 110]⟩ from by kernel_rfl]
  have hB4 : Below w.heap.size w w4 := hB3.trans (hb4.mono hB3.size)
  clear hb4 hB3
  go_wp2_with fail
  go_ret
  exact ⟨rfl, hB4⟩
end Go.Proofs.Ytgmeligofkbdlaa
