/- alive and EntityPlain: the walks. -/
import Derived.Test.YtnehpclbflnpaaaDoorAt
namespace Go.Proofs.YtnehpclbflnpaaaDoor
open Go.RowKit Go.Lib

set_option maxRecDepth 100000 in
theorem at_eacute : atR [38, 35, 50, 51, 51, 59, 120] = ([195, 169], 6) := by decide +kernel
set_option maxRecDepth 100000 in
theorem named_amp : namedR [97, 109, 112] = ([38], true) := by decide +kernel

set_option maxRecDepth 100000 in
set_option maxHeartbeats 1000000 in
theorem alive_any {w : World} (hT : Tabs w) : Calls Tryd.prog 8 #[] w fun e w' => e = .returned (.bool true) ∧ Below w.heap.size w w' := by
  have h1 : ∀ w, Tabs w → Calls Tryd.prog 9 #[.string ⟨#[38, 35, 50, 51, 51, 59, 120]⟩] w fun e w' => e = .returned (.tuple #[.string ⟨#[195, 169]⟩, .int .i64 6]) ∧ Below w.heap.size w w' := fun w hT => by
    have := at_any (w := w) ⟨#[38, 35, 50, 51, 51, 59, 120]⟩ (by decide) hT
    rw [show (⟨#[38, 35, 50, 51, 51, 59, 120]⟩ : ByteArray).data.toList = [38, 35, 50, 51, 51, 59, 120] from rfl, at_eacute] at this
    exact this
  have h2 : ∀ w, Tabs w → Calls Tryd.prog 13 #[.string ⟨#[97, 109, 112]⟩] w fun e w' => e = .returned (.tuple #[.string ⟨#[38]⟩, .bool true]) ∧ Below w.heap.size w w' := fun w hT => by
    have := named_any (w := w) ⟨#[97, 109, 112]⟩ hT
    rw [show (⟨#[97, 109, 112]⟩ : ByteArray).data.toList = [97, 109, 112] from rfl, named_amp] at this
    exact this
  have HT := Lib.hid hT
  clear hT
  go_enter Tryd.func8, Tryd.ntmps8
  go_wp2_with fail
  refine (h1 _ HT.out).mono ?_
  rintro e w1 ⟨rfl, hb1⟩
  have HB1 := Lib.hid hb1
  have HT1 := Lib.hid (HT.out.on hb1)
  clear hb1
  go_wp2_with fail
  refine (h2 _ HT1.out).mono ?_
  rintro e w2 ⟨rfl, hb2⟩
  have HT2 := Lib.hid (HT1.out.on hb2)
  have HB2 := Lib.hid (HB1.out.trans (hb2.mono HB1.out.size))
  clear hb2
  go_wp2_with fail
  refine (names_any HT2.out).mono ?_
  rintro e w3 ⟨rfl, hn, hb3⟩
  have HB3 := Lib.hid (HB2.out.trans (hb3.mono HB2.out.size))
  clear hn hb3
  go_wp2_with fail
  go_ret
  exact ⟨rfl, HB3.out⟩
end Go.Proofs.YtnehpclbflnpaaaDoor
