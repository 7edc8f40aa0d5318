/- bowdlerref1.Names, digit, Entity: the walks. -/
import Derived.Test.YtnehpclbflnpaaaDoorRefPlain
import Derived.Deep.QuietTactic
import Derived.BigQuiet
import Derived.Outline
namespace Go.Proofs.YtnehpclbflnpaaaDoor
open Go.RowKit Go.Lib

set_option maxRecDepth 100000 in
set_option maxHeartbeats 1000000 in
theorem refNames_any {w : World} : Calls Tryd.prog 11 #[] w fun e w' => ∃ g1 g2, e = .returned (.tuple #[.slice (some ⟨g1, 0, none⟩) 23 23, .slice (some ⟨g2, 0, none⟩) 23 23]) ∧ NamesAt g1 w' ∧ RunesAt g2 w' ∧ Below w.heap.size w w' ∧ w.heap.size ≤ g1 := by
  go_enter Tryd.func11, Tryd.ntmps11
  go_wp2_with fail
  go_ret2
  refine ⟨w.heap.size, w.heap.size + 1, rfl, ?_, ?_, ((Below.refl _ _).alloc (Nat.le_refl _) _).alloc (by simp) _, Nat.le_refl _⟩
  · unfold NamesAt
    rw [Below.heap_alloc _ _ _ (by simp)]
    exact heap_alloc_new w _
  · unfold RunesAt
    rw [show w.heap.size + 1 = (w.alloc (.cells (namesL.map fun l => Value.string ⟨l.toArray⟩).toArray 9)).heap.size by simp]
    exact heap_alloc_new _ _

def digR (b : UInt8) (hex : Bool) : Int := if isDig (if hex then 16 else 10) b = true then hexVal b else -1
set_option maxRecDepth 100000 in
theorem digR_fin : ∀ n : Fin 256, ∀ hex : Bool, (48 ≤ n.val ∧ n.val ≤ 57 ∧ digR (UInt8.ofNat n.val) hex = (n.val : Int) - 48) ∨ (hex = true ∧ 97 ≤ n.val ∧ n.val ≤ 102 ∧ digR (UInt8.ofNat n.val) hex = (n.val : Int) - 87) ∨ (hex = true ∧ 65 ≤ n.val ∧ n.val ≤ 70 ∧ digR (UInt8.ofNat n.val) hex = (n.val : Int) - 55) ∨ (digR (UInt8.ofNat n.val) hex = -1 ∧ ¬ (48 ≤ n.val ∧ n.val ≤ 57) ∧ ¬ (hex = true ∧ 97 ≤ n.val ∧ n.val ≤ 102) ∧ ¬ (hex = true ∧ 65 ≤ n.val ∧ n.val ≤ 70)) := by decide +kernel
set_option maxRecDepth 100000 in
set_option maxHeartbeats 1000000 in
theorem digit_any (b : UInt8) (hex : Bool) (w : World) : Calls Tryd.prog 22 #[.int .u8 b.toNat, .bool hex] w fun e w' => e = .returned (.int .i64 (digR b hex)) ∧ w' = w := by
  have hc := digR_fin ⟨b.toNat, b.toNat_lt⟩ hex
  simp only [UInt8.ofNat_toNat] at hc
  have h0 : (0 : Int) ≤ (b.toNat : Int) := by omega
  have h1 : (b.toNat : Int) < 256 := by have := b.toNat_lt; omega
  rcases hc with ⟨c1, c2, c3⟩ | ⟨rfl, c1, c2, c3⟩ | ⟨rfl, c1, c2, c3⟩ | ⟨c3, c4, c5, c6⟩
  · have HC := Lib.hid c3
    have e1 : (48 : Int) ≤ (b.toNat : Int) := by omega
    have e2 : (b.toNat : Int) ≤ 57 := by omega
    clear c1 c2 c3
    generalize b.toNat = n at *
    go_enter Tryd.func22, Tryd.ntmps22
    go_wp2_with fail
    go_ret
    refine ⟨?_, rfl⟩; rw [HC.out]; rfl
  · have HC := Lib.hid c3
    have e1 : (97 : Int) ≤ (b.toNat : Int) := by omega
    have e2 : (b.toNat : Int) ≤ 102 := by omega
    clear c1 c2 c3
    generalize b.toNat = n at *
    go_enter Tryd.func22, Tryd.ntmps22
    go_wp2_with fail
    go_ret
    refine ⟨?_, rfl⟩; rw [HC.out]; first | rfl | go_num
  · have HC := Lib.hid c3
    have e1 : (65 : Int) ≤ (b.toNat : Int) := by omega
    have e2 : (b.toNat : Int) ≤ 70 := by omega
    clear c1 c2 c3
    generalize b.toNat = n at *
    go_enter Tryd.func22, Tryd.ntmps22
    go_wp2_with fail
    go_ret
    refine ⟨?_, rfl⟩; rw [HC.out]; first | rfl | go_num
  · have HC := Lib.hid c3
    have HC4 := Lib.hid c4
    have HC5 := Lib.hid c5
    have HC6 := Lib.hid c6
    clear c3 c4 c5 c6
    cases hex
    all_goals
      generalize b.toNat = n at *
      go_enter Tryd.func22, Tryd.ntmps22
      go_wp2_with fail
    all_goals first
      | (exfalso; have h4 := HC4.out; have h5 := HC5.out; have h6 := HC6.out; simp at h5 h6; omega)
      | (go_ret; refine ⟨?_, rfl⟩; rw [HC.out]; rfl)
end Go.Proofs.YtnehpclbflnpaaaDoor
