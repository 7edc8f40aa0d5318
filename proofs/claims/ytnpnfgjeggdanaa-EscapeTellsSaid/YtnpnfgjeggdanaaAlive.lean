/- alive: the walk. DOES NOT BUILD YET (out of time at whnf: find which of c1 .. c5 or of the arms). -/
import Derived.Test.YtnpnfgjeggdanaaHref
namespace Go.Proofs.Ytnpnfgjeggdanaa
open Go.RowKit Go.Lib

theorem alive_t1 : escL [97, 60, 98, 38, 0] = [97, 38, 108, 116, 59, 98, 38, 97, 109, 112, 59] := by decide +kernel
theorem alive_c1 {w0 w : World} (h : Below w0.heap.size w0 w) : Calls Try.prog 7 #[.string ⟨#[97, 60, 98, 38, 0]⟩] w fun e w' => e = .returned (.string ⟨#[97, 38, 108, 116, 59, 98, 38, 97, 109, 112, 59]⟩) ∧ Below w0.heap.size w0 w' :=
  Esc_lit alive_t1 (by rw [ba_size]; simp) h
theorem alive_t2 : hrefL [47, 97, 32, 98] = [47, 97, 37, 50, 48, 98] := by decide +kernel
theorem alive_c2 {w0 w : World} (h : Below w0.heap.size w0 w) : Calls Try.prog 9 #[.string ⟨#[47, 97, 32, 98]⟩] w fun e w' => e = .returned (.string ⟨#[47, 97, 37, 50, 48, 98]⟩) ∧ Below w0.heap.size w0 w' :=
  Href_lit alive_t2 (by rw [ba_size]; simp) h
theorem alive_t3 : hrefL [100, 97, 116, 97, 58, 120] = [35] := by decide +kernel
theorem alive_c3 {w0 w : World} (h : Below w0.heap.size w0 w) : Calls Try.prog 9 #[.string ⟨#[100, 97, 116, 97, 58, 120]⟩] w fun e w' => e = .returned (.string ⟨#[35]⟩) ∧ Below w0.heap.size w0 w' :=
  Href_lit alive_t3 (by rw [ba_size]; simp) h
theorem alive_t4 : attrL [105, 100] [120] = [32, 105, 100, 61, 34, 120, 34] := by decide +kernel
theorem alive_c4 {w0 w : World} (h : Below w0.heap.size w0 w) : Calls Try.prog 11 #[.string ⟨#[105, 100]⟩, .string ⟨#[120]⟩] w fun e w' => e = .returned (.string ⟨#[32, 105, 100, 61, 34, 120, 34]⟩) ∧ Below w0.heap.size w0 w' :=
  Attr_lit alive_t4 (by rw [ba_size]; simp) (by rw [ba_size]; simp) h
theorem alive_t5 : attrL [105, 100] [] = [] := by decide +kernel
theorem alive_c5 {w0 w : World} (h : Below w0.heap.size w0 w) : Calls Try.prog 11 #[.string ⟨#[105, 100]⟩, .string ⟨#[]⟩] w fun e w' => e = .returned (.string ⟨#[]⟩) ∧ Below w0.heap.size w0 w' :=
  Attr_lit alive_t5 (by rw [ba_size]; simp) (by rw [ba_size]; simp) h

set_option maxHeartbeats 1000000 in
theorem alive_from {w0 w : World} (h : Below w0.heap.size w0 w) : Calls Try.prog 6 #[] w fun e w' => e = .returned (.bool true) ∧ Below w0.heap.size w0 w' := by
  go_enter Try.func6, Try.ntmps6
  go_wp2_with fail
  refine (alive_c1 (w0 := w0) (by assumption)).mono ?_
  rintro e w1 ⟨rfl, hb1⟩
  go_wp2_with fail
  refine (alive_c2 (w0 := w0) (by assumption)).mono ?_
  rintro e w2 ⟨rfl, hb2⟩
  go_wp2_with fail
  refine (alive_c3 (w0 := w0) (by assumption)).mono ?_
  rintro e w3 ⟨rfl, hb3⟩
  go_wp2_with fail
  refine (alive_c4 (w0 := w0) (by assumption)).mono ?_
  rintro e w4 ⟨rfl, hb4⟩
  go_wp2_with fail
  refine (alive_c5 (w0 := w0) (by assumption)).mono ?_
  rintro e w5 ⟨rfl, hb5⟩
  go_wp2_with fail
  go_ret
  exact ⟨rfl, by assumption⟩
end Go.Proofs.Ytnpnfgjeggdanaa
