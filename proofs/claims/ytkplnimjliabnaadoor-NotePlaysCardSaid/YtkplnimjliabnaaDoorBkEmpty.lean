/- What the book does with kinds of which nothing is kept: still, put, grow, marked: the walks. Printed by gen_empty.py. -/
import Derived.Test.YtkplnimjliabnaaDoorBkSt
namespace Go.Proofs.YtkplnimjliabnaaDoor.bk
open Go.RowKit Go.Lib

theorem still_Ints {w : World} {b : Nat} (hc : w.cell? ⟨b, 2, none⟩ = some nilS) : Calls Tryd.prog 25 #[.pointer (some ⟨b, 0, none⟩)] w fun e w' => e = .returned (.bool true) ∧ Below w.heap.size w w' := by
  have hbl : b < w.heap.size := World.block_lt_of_cell? w ⟨b, 2, none⟩ hc
  have HC := Lib.hid hc
  clear hc
  go_enter Tryd.func25, Tryd.ntmps25
  go_wp2_with fail
  go_loopw [3] (fun i wr => i = .int .i64 0 ∧ Below w.heap.size w wr) (fun _ _ => 0)
  case atStart => exact ⟨rfl, Below.refl _ _⟩
  case round =>
    obtain ⟨rfl, hB⟩ := hrel
    have hc := (hB.cell (p := ⟨b, 2, none⟩) hbl).trans HC.out
    go_wp2_with fail
    go_ret
    exact ⟨rfl, hB⟩

theorem put_Ints {w : World} {b : Nat} (hc : w.cell? ⟨b, 2, none⟩ = some nilS) : Calls Tryd.prog 34 #[.pointer (some ⟨b, 0, none⟩)] w fun e w' => e = .returned (.tuple #[]) ∧ Below w.heap.size w w' := by
  have hbl : b < w.heap.size := World.block_lt_of_cell? w ⟨b, 2, none⟩ hc
  have HC := Lib.hid hc
  clear hc
  go_enter Tryd.func34, Tryd.ntmps34
  go_wp2_with fail
  go_loopw [2] (fun i wr => i = .int .i64 0 ∧ Below w.heap.size w wr) (fun _ _ => 0)
  case atStart => exact ⟨rfl, Below.refl _ _⟩
  case round =>
    obtain ⟨rfl, hB⟩ := hrel
    have hc := (hB.cell (p := ⟨b, 2, none⟩) hbl).trans HC.out
    go_wp2_with fail
    go_end0
    exact ⟨rfl, hB⟩

theorem grow_Ints {w : World} {b : Nat} (hc : w.cell? ⟨b, 2, none⟩ = some nilS) : Calls Tryd.prog 41 #[.pointer (some ⟨b, 0, none⟩)] w fun e w' => e = .returned (nilS) ∧ Below w.heap.size w w' := by
  have hbl : b < w.heap.size := World.block_lt_of_cell? w ⟨b, 2, none⟩ hc
  have HC := Lib.hid hc
  clear hc
  go_enter Tryd.func41, Tryd.ntmps41
  go_wp2_with fail
  go_loopw [3, 4] (fun o i wr => o = nilS ∧ i = .int .i64 0 ∧ Below w.heap.size w wr) (fun _ _ _ => 0)
  case atStart => exact ⟨rfl, rfl, Below.refl _ _⟩
  case round =>
    obtain ⟨rfl, rfl, hB⟩ := hrel
    have hc := (hB.cell (p := ⟨b, 2, none⟩) hbl).trans HC.out
    go_wp2_with fail
    go_ret
    exact ⟨rfl, hB⟩

theorem marked_Ints {w : World} : Calls Tryd.prog 49 #[nilS] w fun e w' => e = .returned (.bool true) ∧ Below w.heap.size w w' := by
  go_enter Tryd.func49, Tryd.ntmps49
  go_wp2_with fail
  go_loopw [3] (fun i wr => i = .int .i64 0 ∧ Below w.heap.size w wr) (fun _ _ => 0)
  case atStart => exact ⟨rfl, Below.refl _ _⟩
  case round =>
    obtain ⟨rfl, hB⟩ := hrel
    go_wp2_with fail
    go_ret
    exact ⟨rfl, hB⟩

theorem still_Blocks {w : World} {b : Nat} (hc : w.cell? ⟨b, 4, none⟩ = some nilS) : Calls Tryd.prog 26 #[.pointer (some ⟨b, 0, none⟩)] w fun e w' => e = .returned (.bool true) ∧ Below w.heap.size w w' := by
  have hbl : b < w.heap.size := World.block_lt_of_cell? w ⟨b, 4, none⟩ hc
  have HC := Lib.hid hc
  clear hc
  go_enter Tryd.func26, Tryd.ntmps26
  go_wp2_with fail
  go_loopw [3] (fun i wr => i = .int .i64 0 ∧ Below w.heap.size w wr) (fun _ _ => 0)
  case atStart => exact ⟨rfl, Below.refl _ _⟩
  case round =>
    obtain ⟨rfl, hB⟩ := hrel
    have hc := (hB.cell (p := ⟨b, 4, none⟩) hbl).trans HC.out
    go_wp2_with fail
    go_ret
    exact ⟨rfl, hB⟩

theorem put_Blocks {w : World} {b : Nat} (hc : w.cell? ⟨b, 4, none⟩ = some nilS) : Calls Tryd.prog 35 #[.pointer (some ⟨b, 0, none⟩)] w fun e w' => e = .returned (.tuple #[]) ∧ Below w.heap.size w w' := by
  have hbl : b < w.heap.size := World.block_lt_of_cell? w ⟨b, 4, none⟩ hc
  have HC := Lib.hid hc
  clear hc
  go_enter Tryd.func35, Tryd.ntmps35
  go_wp2_with fail
  go_loopw [2] (fun i wr => i = .int .i64 0 ∧ Below w.heap.size w wr) (fun _ _ => 0)
  case atStart => exact ⟨rfl, Below.refl _ _⟩
  case round =>
    obtain ⟨rfl, hB⟩ := hrel
    have hc := (hB.cell (p := ⟨b, 4, none⟩) hbl).trans HC.out
    go_wp2_with fail
    go_end0
    exact ⟨rfl, hB⟩

theorem grow_Blocks {w : World} {b : Nat} (hc : w.cell? ⟨b, 4, none⟩ = some nilS) : Calls Tryd.prog 42 #[.pointer (some ⟨b, 0, none⟩)] w fun e w' => e = .returned (nilS) ∧ Below w.heap.size w w' := by
  have hbl : b < w.heap.size := World.block_lt_of_cell? w ⟨b, 4, none⟩ hc
  have HC := Lib.hid hc
  clear hc
  go_enter Tryd.func42, Tryd.ntmps42
  go_wp2_with fail
  go_loopw [3, 4] (fun o i wr => o = nilS ∧ i = .int .i64 0 ∧ Below w.heap.size w wr) (fun _ _ _ => 0)
  case atStart => exact ⟨rfl, rfl, Below.refl _ _⟩
  case round =>
    obtain ⟨rfl, rfl, hB⟩ := hrel
    have hc := (hB.cell (p := ⟨b, 4, none⟩) hbl).trans HC.out
    go_wp2_with fail
    go_ret
    exact ⟨rfl, hB⟩

theorem marked_Blocks {w : World} : Calls Tryd.prog 50 #[nilS] w fun e w' => e = .returned (.bool true) ∧ Below w.heap.size w w' := by
  go_enter Tryd.func50, Tryd.ntmps50
  go_wp2_with fail
  go_loopw [3] (fun i wr => i = .int .i64 0 ∧ Below w.heap.size w wr) (fun _ _ => 0)
  case atStart => exact ⟨rfl, Below.refl _ _⟩
  case round =>
    obtain ⟨rfl, hB⟩ := hrel
    go_wp2_with fail
    go_ret
    exact ⟨rfl, hB⟩

theorem still_Inls {w : World} {b : Nat} (hc : w.cell? ⟨b, 6, none⟩ = some nilS) : Calls Tryd.prog 27 #[.pointer (some ⟨b, 0, none⟩)] w fun e w' => e = .returned (.bool true) ∧ Below w.heap.size w w' := by
  have hbl : b < w.heap.size := World.block_lt_of_cell? w ⟨b, 6, none⟩ hc
  have HC := Lib.hid hc
  clear hc
  go_enter Tryd.func27, Tryd.ntmps27
  go_wp2_with fail
  go_loopw [3] (fun i wr => i = .int .i64 0 ∧ Below w.heap.size w wr) (fun _ _ => 0)
  case atStart => exact ⟨rfl, Below.refl _ _⟩
  case round =>
    obtain ⟨rfl, hB⟩ := hrel
    have hc := (hB.cell (p := ⟨b, 6, none⟩) hbl).trans HC.out
    go_wp2_with fail
    go_ret
    exact ⟨rfl, hB⟩

theorem put_Inls {w : World} {b : Nat} (hc : w.cell? ⟨b, 6, none⟩ = some nilS) : Calls Tryd.prog 36 #[.pointer (some ⟨b, 0, none⟩)] w fun e w' => e = .returned (.tuple #[]) ∧ Below w.heap.size w w' := by
  have hbl : b < w.heap.size := World.block_lt_of_cell? w ⟨b, 6, none⟩ hc
  have HC := Lib.hid hc
  clear hc
  go_enter Tryd.func36, Tryd.ntmps36
  go_wp2_with fail
  go_loopw [2] (fun i wr => i = .int .i64 0 ∧ Below w.heap.size w wr) (fun _ _ => 0)
  case atStart => exact ⟨rfl, Below.refl _ _⟩
  case round =>
    obtain ⟨rfl, hB⟩ := hrel
    have hc := (hB.cell (p := ⟨b, 6, none⟩) hbl).trans HC.out
    go_wp2_with fail
    go_end0
    exact ⟨rfl, hB⟩

theorem grow_Inls {w : World} {b : Nat} (hc : w.cell? ⟨b, 6, none⟩ = some nilS) : Calls Tryd.prog 43 #[.pointer (some ⟨b, 0, none⟩)] w fun e w' => e = .returned (nilS) ∧ Below w.heap.size w w' := by
  have hbl : b < w.heap.size := World.block_lt_of_cell? w ⟨b, 6, none⟩ hc
  have HC := Lib.hid hc
  clear hc
  go_enter Tryd.func43, Tryd.ntmps43
  go_wp2_with fail
  go_loopw [3, 4] (fun o i wr => o = nilS ∧ i = .int .i64 0 ∧ Below w.heap.size w wr) (fun _ _ _ => 0)
  case atStart => exact ⟨rfl, rfl, Below.refl _ _⟩
  case round =>
    obtain ⟨rfl, rfl, hB⟩ := hrel
    have hc := (hB.cell (p := ⟨b, 6, none⟩) hbl).trans HC.out
    go_wp2_with fail
    go_ret
    exact ⟨rfl, hB⟩

theorem marked_Inls {w : World} : Calls Tryd.prog 51 #[nilS] w fun e w' => e = .returned (.bool true) ∧ Below w.heap.size w w' := by
  go_enter Tryd.func51, Tryd.ntmps51
  go_wp2_with fail
  go_loopw [3] (fun i wr => i = .int .i64 0 ∧ Below w.heap.size w wr) (fun _ _ => 0)
  case atStart => exact ⟨rfl, Below.refl _ _⟩
  case round =>
    obtain ⟨rfl, hB⟩ := hrel
    go_wp2_with fail
    go_ret
    exact ⟨rfl, hB⟩

theorem still_Parts {w : World} {b : Nat} (hc : w.cell? ⟨b, 8, none⟩ = some nilS) : Calls Tryd.prog 28 #[.pointer (some ⟨b, 0, none⟩)] w fun e w' => e = .returned (.bool true) ∧ Below w.heap.size w w' := by
  have hbl : b < w.heap.size := World.block_lt_of_cell? w ⟨b, 8, none⟩ hc
  have HC := Lib.hid hc
  clear hc
  go_enter Tryd.func28, Tryd.ntmps28
  go_wp2_with fail
  go_loopw [3] (fun i wr => i = .int .i64 0 ∧ Below w.heap.size w wr) (fun _ _ => 0)
  case atStart => exact ⟨rfl, Below.refl _ _⟩
  case round =>
    obtain ⟨rfl, hB⟩ := hrel
    have hc := (hB.cell (p := ⟨b, 8, none⟩) hbl).trans HC.out
    go_wp2_with fail
    go_ret
    exact ⟨rfl, hB⟩

theorem put_Parts {w : World} {b : Nat} (hc : w.cell? ⟨b, 8, none⟩ = some nilS) : Calls Tryd.prog 32 #[.pointer (some ⟨b, 0, none⟩)] w fun e w' => e = .returned (.tuple #[]) ∧ Below w.heap.size w w' := by
  have hbl : b < w.heap.size := World.block_lt_of_cell? w ⟨b, 8, none⟩ hc
  have HC := Lib.hid hc
  clear hc
  go_enter Tryd.func32, Tryd.ntmps32
  go_wp2_with fail
  go_loopw [2] (fun i wr => i = .int .i64 0 ∧ Below w.heap.size w wr) (fun _ _ => 0)
  case atStart => exact ⟨rfl, Below.refl _ _⟩
  case round =>
    obtain ⟨rfl, hB⟩ := hrel
    have hc := (hB.cell (p := ⟨b, 8, none⟩) hbl).trans HC.out
    go_wp2_with fail
    go_end0
    exact ⟨rfl, hB⟩

theorem grow_Parts {w : World} {b : Nat} (hc : w.cell? ⟨b, 8, none⟩ = some nilS) : Calls Tryd.prog 44 #[.pointer (some ⟨b, 0, none⟩)] w fun e w' => e = .returned (nilS) ∧ Below w.heap.size w w' := by
  have hbl : b < w.heap.size := World.block_lt_of_cell? w ⟨b, 8, none⟩ hc
  have HC := Lib.hid hc
  clear hc
  go_enter Tryd.func44, Tryd.ntmps44
  go_wp2_with fail
  go_loopw [3, 4] (fun o i wr => o = nilS ∧ i = .int .i64 0 ∧ Below w.heap.size w wr) (fun _ _ _ => 0)
  case atStart => exact ⟨rfl, rfl, Below.refl _ _⟩
  case round =>
    obtain ⟨rfl, rfl, hB⟩ := hrel
    have hc := (hB.cell (p := ⟨b, 8, none⟩) hbl).trans HC.out
    go_wp2_with fail
    go_ret
    exact ⟨rfl, hB⟩

theorem marked_Parts {w : World} : Calls Tryd.prog 52 #[nilS] w fun e w' => e = .returned (.bool true) ∧ Below w.heap.size w w' := by
  go_enter Tryd.func52, Tryd.ntmps52
  go_wp2_with fail
  go_loopw [3] (fun i wr => i = .int .i64 0 ∧ Below w.heap.size w wr) (fun _ _ => 0)
  case atStart => exact ⟨rfl, Below.refl _ _⟩
  case round =>
    obtain ⟨rfl, hB⟩ := hrel
    go_wp2_with fail
    go_ret
    exact ⟨rfl, hB⟩

theorem still_Defs {w : World} {b : Nat} (hc : w.cell? ⟨b, 10, none⟩ = some nilS) : Calls Tryd.prog 29 #[.pointer (some ⟨b, 0, none⟩)] w fun e w' => e = .returned (.bool true) ∧ Below w.heap.size w w' := by
  have hbl : b < w.heap.size := World.block_lt_of_cell? w ⟨b, 10, none⟩ hc
  have HC := Lib.hid hc
  clear hc
  go_enter Tryd.func29, Tryd.ntmps29
  go_wp2_with fail
  go_loopw [3] (fun i wr => i = .int .i64 0 ∧ Below w.heap.size w wr) (fun _ _ => 0)
  case atStart => exact ⟨rfl, Below.refl _ _⟩
  case round =>
    obtain ⟨rfl, hB⟩ := hrel
    have hc := (hB.cell (p := ⟨b, 10, none⟩) hbl).trans HC.out
    go_wp2_with fail
    go_ret
    exact ⟨rfl, hB⟩

theorem put_Defs {w : World} {b : Nat} (hc : w.cell? ⟨b, 10, none⟩ = some nilS) : Calls Tryd.prog 37 #[.pointer (some ⟨b, 0, none⟩)] w fun e w' => e = .returned (.tuple #[]) ∧ Below w.heap.size w w' := by
  have hbl : b < w.heap.size := World.block_lt_of_cell? w ⟨b, 10, none⟩ hc
  have HC := Lib.hid hc
  clear hc
  go_enter Tryd.func37, Tryd.ntmps37
  go_wp2_with fail
  go_loopw [2] (fun i wr => i = .int .i64 0 ∧ Below w.heap.size w wr) (fun _ _ => 0)
  case atStart => exact ⟨rfl, Below.refl _ _⟩
  case round =>
    obtain ⟨rfl, hB⟩ := hrel
    have hc := (hB.cell (p := ⟨b, 10, none⟩) hbl).trans HC.out
    go_wp2_with fail
    go_end0
    exact ⟨rfl, hB⟩

theorem grow_Defs {w : World} {b : Nat} (hc : w.cell? ⟨b, 10, none⟩ = some nilS) : Calls Tryd.prog 45 #[.pointer (some ⟨b, 0, none⟩)] w fun e w' => e = .returned (nilS) ∧ Below w.heap.size w w' := by
  have hbl : b < w.heap.size := World.block_lt_of_cell? w ⟨b, 10, none⟩ hc
  have HC := Lib.hid hc
  clear hc
  go_enter Tryd.func45, Tryd.ntmps45
  go_wp2_with fail
  go_loopw [3, 4] (fun o i wr => o = nilS ∧ i = .int .i64 0 ∧ Below w.heap.size w wr) (fun _ _ _ => 0)
  case atStart => exact ⟨rfl, rfl, Below.refl _ _⟩
  case round =>
    obtain ⟨rfl, rfl, hB⟩ := hrel
    have hc := (hB.cell (p := ⟨b, 10, none⟩) hbl).trans HC.out
    go_wp2_with fail
    go_ret
    exact ⟨rfl, hB⟩

theorem marked_Defs {w : World} : Calls Tryd.prog 53 #[nilS] w fun e w' => e = .returned (.bool true) ∧ Below w.heap.size w w' := by
  go_enter Tryd.func53, Tryd.ntmps53
  go_wp2_with fail
  go_loopw [3] (fun i wr => i = .int .i64 0 ∧ Below w.heap.size w wr) (fun _ _ => 0)
  case atStart => exact ⟨rfl, Below.refl _ _⟩
  case round =>
    obtain ⟨rfl, hB⟩ := hrel
    go_wp2_with fail
    go_ret
    exact ⟨rfl, hB⟩

theorem still_Secs {w : World} {b : Nat} (hc : w.cell? ⟨b, 12, none⟩ = some nilS) : Calls Tryd.prog 30 #[.pointer (some ⟨b, 0, none⟩)] w fun e w' => e = .returned (.bool true) ∧ Below w.heap.size w w' := by
  have hbl : b < w.heap.size := World.block_lt_of_cell? w ⟨b, 12, none⟩ hc
  have HC := Lib.hid hc
  clear hc
  go_enter Tryd.func30, Tryd.ntmps30
  go_wp2_with fail
  go_loopw [3] (fun i wr => i = .int .i64 0 ∧ Below w.heap.size w wr) (fun _ _ => 0)
  case atStart => exact ⟨rfl, Below.refl _ _⟩
  case round =>
    obtain ⟨rfl, hB⟩ := hrel
    have hc := (hB.cell (p := ⟨b, 12, none⟩) hbl).trans HC.out
    go_wp2_with fail
    go_ret
    exact ⟨rfl, hB⟩

theorem put_Secs {w : World} {b : Nat} (hc : w.cell? ⟨b, 12, none⟩ = some nilS) : Calls Tryd.prog 38 #[.pointer (some ⟨b, 0, none⟩)] w fun e w' => e = .returned (.tuple #[]) ∧ Below w.heap.size w w' := by
  have hbl : b < w.heap.size := World.block_lt_of_cell? w ⟨b, 12, none⟩ hc
  have HC := Lib.hid hc
  clear hc
  go_enter Tryd.func38, Tryd.ntmps38
  go_wp2_with fail
  go_loopw [2] (fun i wr => i = .int .i64 0 ∧ Below w.heap.size w wr) (fun _ _ => 0)
  case atStart => exact ⟨rfl, Below.refl _ _⟩
  case round =>
    obtain ⟨rfl, hB⟩ := hrel
    have hc := (hB.cell (p := ⟨b, 12, none⟩) hbl).trans HC.out
    go_wp2_with fail
    go_end0
    exact ⟨rfl, hB⟩

theorem grow_Secs {w : World} {b : Nat} (hc : w.cell? ⟨b, 12, none⟩ = some nilS) : Calls Tryd.prog 46 #[.pointer (some ⟨b, 0, none⟩)] w fun e w' => e = .returned (nilS) ∧ Below w.heap.size w w' := by
  have hbl : b < w.heap.size := World.block_lt_of_cell? w ⟨b, 12, none⟩ hc
  have HC := Lib.hid hc
  clear hc
  go_enter Tryd.func46, Tryd.ntmps46
  go_wp2_with fail
  go_loopw [3, 4] (fun o i wr => o = nilS ∧ i = .int .i64 0 ∧ Below w.heap.size w wr) (fun _ _ _ => 0)
  case atStart => exact ⟨rfl, rfl, Below.refl _ _⟩
  case round =>
    obtain ⟨rfl, rfl, hB⟩ := hrel
    have hc := (hB.cell (p := ⟨b, 12, none⟩) hbl).trans HC.out
    go_wp2_with fail
    go_ret
    exact ⟨rfl, hB⟩

theorem marked_Secs {w : World} : Calls Tryd.prog 54 #[nilS] w fun e w' => e = .returned (.bool true) ∧ Below w.heap.size w w' := by
  go_enter Tryd.func54, Tryd.ntmps54
  go_wp2_with fail
  go_loopw [3] (fun i wr => i = .int .i64 0 ∧ Below w.heap.size w wr) (fun _ _ => 0)
  case atStart => exact ⟨rfl, Below.refl _ _⟩
  case round =>
    obtain ⟨rfl, hB⟩ := hrel
    go_wp2_with fail
    go_ret
    exact ⟨rfl, hB⟩

theorem still_Diags {w : World} {b : Nat} (hc : w.cell? ⟨b, 14, none⟩ = some nilS) : Calls Tryd.prog 31 #[.pointer (some ⟨b, 0, none⟩)] w fun e w' => e = .returned (.bool true) ∧ Below w.heap.size w w' := by
  have hbl : b < w.heap.size := World.block_lt_of_cell? w ⟨b, 14, none⟩ hc
  have HC := Lib.hid hc
  clear hc
  go_enter Tryd.func31, Tryd.ntmps31
  go_wp2_with fail
  go_loopw [3] (fun i wr => i = .int .i64 0 ∧ Below w.heap.size w wr) (fun _ _ => 0)
  case atStart => exact ⟨rfl, Below.refl _ _⟩
  case round =>
    obtain ⟨rfl, hB⟩ := hrel
    have hc := (hB.cell (p := ⟨b, 14, none⟩) hbl).trans HC.out
    go_wp2_with fail
    go_ret
    exact ⟨rfl, hB⟩

theorem put_Diags {w : World} {b : Nat} (hc : w.cell? ⟨b, 14, none⟩ = some nilS) : Calls Tryd.prog 39 #[.pointer (some ⟨b, 0, none⟩)] w fun e w' => e = .returned (.tuple #[]) ∧ Below w.heap.size w w' := by
  have hbl : b < w.heap.size := World.block_lt_of_cell? w ⟨b, 14, none⟩ hc
  have HC := Lib.hid hc
  clear hc
  go_enter Tryd.func39, Tryd.ntmps39
  go_wp2_with fail
  go_loopw [2] (fun i wr => i = .int .i64 0 ∧ Below w.heap.size w wr) (fun _ _ => 0)
  case atStart => exact ⟨rfl, Below.refl _ _⟩
  case round =>
    obtain ⟨rfl, hB⟩ := hrel
    have hc := (hB.cell (p := ⟨b, 14, none⟩) hbl).trans HC.out
    go_wp2_with fail
    go_end0
    exact ⟨rfl, hB⟩

theorem grow_Diags {w : World} {b : Nat} (hc : w.cell? ⟨b, 14, none⟩ = some nilS) : Calls Tryd.prog 47 #[.pointer (some ⟨b, 0, none⟩)] w fun e w' => e = .returned (nilS) ∧ Below w.heap.size w w' := by
  have hbl : b < w.heap.size := World.block_lt_of_cell? w ⟨b, 14, none⟩ hc
  have HC := Lib.hid hc
  clear hc
  go_enter Tryd.func47, Tryd.ntmps47
  go_wp2_with fail
  go_loopw [3, 4] (fun o i wr => o = nilS ∧ i = .int .i64 0 ∧ Below w.heap.size w wr) (fun _ _ _ => 0)
  case atStart => exact ⟨rfl, rfl, Below.refl _ _⟩
  case round =>
    obtain ⟨rfl, rfl, hB⟩ := hrel
    have hc := (hB.cell (p := ⟨b, 14, none⟩) hbl).trans HC.out
    go_wp2_with fail
    go_ret
    exact ⟨rfl, hB⟩

theorem marked_Diags {w : World} : Calls Tryd.prog 55 #[nilS] w fun e w' => e = .returned (.bool true) ∧ Below w.heap.size w w' := by
  go_enter Tryd.func55, Tryd.ntmps55
  go_wp2_with fail
  go_loopw [3] (fun i wr => i = .int .i64 0 ∧ Below w.heap.size w wr) (fun _ _ => 0)
  case atStart => exact ⟨rfl, Below.refl _ _⟩
  case round =>
    obtain ⟨rfl, hB⟩ := hrel
    go_wp2_with fail
    go_ret
    exact ⟨rfl, hB⟩

end Go.Proofs.YtkplnimjliabnaaDoor.bk
