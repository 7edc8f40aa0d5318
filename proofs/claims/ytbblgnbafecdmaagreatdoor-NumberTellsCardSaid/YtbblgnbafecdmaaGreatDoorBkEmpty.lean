/- What the book does with kinds of which nothing is kept: still, put, grow, marked: the walks. Printed by gen_empty.py. -/
import Derived.Test.YtbblgnbafecdmaaGreatDoorBkSt
namespace Go.Proofs.YtbblgnbafecdmaaGreatDoor.bk
open Go.RowKit Go.Lib

theorem still_Ints {w : World} {b : Nat} (hc : w.cell? ⟨b, 2, none⟩ = some nilS) : Calls Tryz.prog 26 #[.pointer (some ⟨b, 0, none⟩)] w fun e w' => e = .returned (.bool true) ∧ Below w.heap.size w w' := by
  have hbl : b < w.heap.size := World.block_lt_of_cell? w ⟨b, 2, none⟩ hc
  have HC := Lib.hid hc
  clear hc
  go_enter Tryz.func26, Tryz.ntmps26
  go_wp2_with fail
  go_loopw [3] (fun i wr => i = .int .i64 0 ∧ Below w.heap.size w wr) (fun _ _ => 0)
  case atStart => exact ⟨rfl, Below.refl _ _⟩
  case round =>
    obtain ⟨rfl, hB⟩ := hrel
    have hc := (hB.cell (p := ⟨b, 2, none⟩) hbl).trans HC.out
    go_wp2_with fail
    go_ret
    exact ⟨rfl, hB⟩

theorem put_Ints {w : World} {b : Nat} (hc : w.cell? ⟨b, 2, none⟩ = some nilS) : Calls Tryz.prog 35 #[.pointer (some ⟨b, 0, none⟩)] w fun e w' => e = .returned (.tuple #[]) ∧ Below w.heap.size w w' := by
  have hbl : b < w.heap.size := World.block_lt_of_cell? w ⟨b, 2, none⟩ hc
  have HC := Lib.hid hc
  clear hc
  go_enter Tryz.func35, Tryz.ntmps35
  go_wp2_with fail
  go_loopw [2] (fun i wr => i = .int .i64 0 ∧ Below w.heap.size w wr) (fun _ _ => 0)
  case atStart => exact ⟨rfl, Below.refl _ _⟩
  case round =>
    obtain ⟨rfl, hB⟩ := hrel
    have hc := (hB.cell (p := ⟨b, 2, none⟩) hbl).trans HC.out
    go_wp2_with fail
    go_end0
    exact ⟨rfl, hB⟩

theorem grow_Ints {w : World} {b : Nat} (hc : w.cell? ⟨b, 2, none⟩ = some nilS) : Calls Tryz.prog 42 #[.pointer (some ⟨b, 0, none⟩)] w fun e w' => e = .returned (nilS) ∧ Below w.heap.size w w' := by
  have hbl : b < w.heap.size := World.block_lt_of_cell? w ⟨b, 2, none⟩ hc
  have HC := Lib.hid hc
  clear hc
  go_enter Tryz.func42, Tryz.ntmps42
  go_wp2_with fail
  go_loopw [3, 4] (fun o i wr => o = nilS ∧ i = .int .i64 0 ∧ Below w.heap.size w wr) (fun _ _ _ => 0)
  case atStart => exact ⟨rfl, rfl, Below.refl _ _⟩
  case round =>
    obtain ⟨rfl, rfl, hB⟩ := hrel
    have hc := (hB.cell (p := ⟨b, 2, none⟩) hbl).trans HC.out
    go_wp2_with fail
    go_ret
    exact ⟨rfl, hB⟩

theorem marked_Ints {w : World} : Calls Tryz.prog 50 #[nilS] w fun e w' => e = .returned (.bool true) ∧ Below w.heap.size w w' := by
  go_enter Tryz.func50, Tryz.ntmps50
  go_wp2_with fail
  go_loopw [3] (fun i wr => i = .int .i64 0 ∧ Below w.heap.size w wr) (fun _ _ => 0)
  case atStart => exact ⟨rfl, Below.refl _ _⟩
  case round =>
    obtain ⟨rfl, hB⟩ := hrel
    go_wp2_with fail
    go_ret
    exact ⟨rfl, hB⟩

theorem still_Blocks {w : World} {b : Nat} (hc : w.cell? ⟨b, 4, none⟩ = some nilS) : Calls Tryz.prog 27 #[.pointer (some ⟨b, 0, none⟩)] w fun e w' => e = .returned (.bool true) ∧ Below w.heap.size w w' := by
  have hbl : b < w.heap.size := World.block_lt_of_cell? w ⟨b, 4, none⟩ hc
  have HC := Lib.hid hc
  clear hc
  go_enter Tryz.func27, Tryz.ntmps27
  go_wp2_with fail
  go_loopw [3] (fun i wr => i = .int .i64 0 ∧ Below w.heap.size w wr) (fun _ _ => 0)
  case atStart => exact ⟨rfl, Below.refl _ _⟩
  case round =>
    obtain ⟨rfl, hB⟩ := hrel
    have hc := (hB.cell (p := ⟨b, 4, none⟩) hbl).trans HC.out
    go_wp2_with fail
    go_ret
    exact ⟨rfl, hB⟩

theorem put_Blocks {w : World} {b : Nat} (hc : w.cell? ⟨b, 4, none⟩ = some nilS) : Calls Tryz.prog 36 #[.pointer (some ⟨b, 0, none⟩)] w fun e w' => e = .returned (.tuple #[]) ∧ Below w.heap.size w w' := by
  have hbl : b < w.heap.size := World.block_lt_of_cell? w ⟨b, 4, none⟩ hc
  have HC := Lib.hid hc
  clear hc
  go_enter Tryz.func36, Tryz.ntmps36
  go_wp2_with fail
  go_loopw [2] (fun i wr => i = .int .i64 0 ∧ Below w.heap.size w wr) (fun _ _ => 0)
  case atStart => exact ⟨rfl, Below.refl _ _⟩
  case round =>
    obtain ⟨rfl, hB⟩ := hrel
    have hc := (hB.cell (p := ⟨b, 4, none⟩) hbl).trans HC.out
    go_wp2_with fail
    go_end0
    exact ⟨rfl, hB⟩

theorem grow_Blocks {w : World} {b : Nat} (hc : w.cell? ⟨b, 4, none⟩ = some nilS) : Calls Tryz.prog 43 #[.pointer (some ⟨b, 0, none⟩)] w fun e w' => e = .returned (nilS) ∧ Below w.heap.size w w' := by
  have hbl : b < w.heap.size := World.block_lt_of_cell? w ⟨b, 4, none⟩ hc
  have HC := Lib.hid hc
  clear hc
  go_enter Tryz.func43, Tryz.ntmps43
  go_wp2_with fail
  go_loopw [3, 4] (fun o i wr => o = nilS ∧ i = .int .i64 0 ∧ Below w.heap.size w wr) (fun _ _ _ => 0)
  case atStart => exact ⟨rfl, rfl, Below.refl _ _⟩
  case round =>
    obtain ⟨rfl, rfl, hB⟩ := hrel
    have hc := (hB.cell (p := ⟨b, 4, none⟩) hbl).trans HC.out
    go_wp2_with fail
    go_ret
    exact ⟨rfl, hB⟩

theorem marked_Blocks {w : World} : Calls Tryz.prog 51 #[nilS] w fun e w' => e = .returned (.bool true) ∧ Below w.heap.size w w' := by
  go_enter Tryz.func51, Tryz.ntmps51
  go_wp2_with fail
  go_loopw [3] (fun i wr => i = .int .i64 0 ∧ Below w.heap.size w wr) (fun _ _ => 0)
  case atStart => exact ⟨rfl, Below.refl _ _⟩
  case round =>
    obtain ⟨rfl, hB⟩ := hrel
    go_wp2_with fail
    go_ret
    exact ⟨rfl, hB⟩

theorem still_Inls {w : World} {b : Nat} (hc : w.cell? ⟨b, 6, none⟩ = some nilS) : Calls Tryz.prog 28 #[.pointer (some ⟨b, 0, none⟩)] w fun e w' => e = .returned (.bool true) ∧ Below w.heap.size w w' := by
  have hbl : b < w.heap.size := World.block_lt_of_cell? w ⟨b, 6, none⟩ hc
  have HC := Lib.hid hc
  clear hc
  go_enter Tryz.func28, Tryz.ntmps28
  go_wp2_with fail
  go_loopw [3] (fun i wr => i = .int .i64 0 ∧ Below w.heap.size w wr) (fun _ _ => 0)
  case atStart => exact ⟨rfl, Below.refl _ _⟩
  case round =>
    obtain ⟨rfl, hB⟩ := hrel
    have hc := (hB.cell (p := ⟨b, 6, none⟩) hbl).trans HC.out
    go_wp2_with fail
    go_ret
    exact ⟨rfl, hB⟩

theorem put_Inls {w : World} {b : Nat} (hc : w.cell? ⟨b, 6, none⟩ = some nilS) : Calls Tryz.prog 37 #[.pointer (some ⟨b, 0, none⟩)] w fun e w' => e = .returned (.tuple #[]) ∧ Below w.heap.size w w' := by
  have hbl : b < w.heap.size := World.block_lt_of_cell? w ⟨b, 6, none⟩ hc
  have HC := Lib.hid hc
  clear hc
  go_enter Tryz.func37, Tryz.ntmps37
  go_wp2_with fail
  go_loopw [2] (fun i wr => i = .int .i64 0 ∧ Below w.heap.size w wr) (fun _ _ => 0)
  case atStart => exact ⟨rfl, Below.refl _ _⟩
  case round =>
    obtain ⟨rfl, hB⟩ := hrel
    have hc := (hB.cell (p := ⟨b, 6, none⟩) hbl).trans HC.out
    go_wp2_with fail
    go_end0
    exact ⟨rfl, hB⟩

theorem grow_Inls {w : World} {b : Nat} (hc : w.cell? ⟨b, 6, none⟩ = some nilS) : Calls Tryz.prog 44 #[.pointer (some ⟨b, 0, none⟩)] w fun e w' => e = .returned (nilS) ∧ Below w.heap.size w w' := by
  have hbl : b < w.heap.size := World.block_lt_of_cell? w ⟨b, 6, none⟩ hc
  have HC := Lib.hid hc
  clear hc
  go_enter Tryz.func44, Tryz.ntmps44
  go_wp2_with fail
  go_loopw [3, 4] (fun o i wr => o = nilS ∧ i = .int .i64 0 ∧ Below w.heap.size w wr) (fun _ _ _ => 0)
  case atStart => exact ⟨rfl, rfl, Below.refl _ _⟩
  case round =>
    obtain ⟨rfl, rfl, hB⟩ := hrel
    have hc := (hB.cell (p := ⟨b, 6, none⟩) hbl).trans HC.out
    go_wp2_with fail
    go_ret
    exact ⟨rfl, hB⟩

theorem marked_Inls {w : World} : Calls Tryz.prog 52 #[nilS] w fun e w' => e = .returned (.bool true) ∧ Below w.heap.size w w' := by
  go_enter Tryz.func52, Tryz.ntmps52
  go_wp2_with fail
  go_loopw [3] (fun i wr => i = .int .i64 0 ∧ Below w.heap.size w wr) (fun _ _ => 0)
  case atStart => exact ⟨rfl, Below.refl _ _⟩
  case round =>
    obtain ⟨rfl, hB⟩ := hrel
    go_wp2_with fail
    go_ret
    exact ⟨rfl, hB⟩

theorem still_Parts {w : World} {b : Nat} (hc : w.cell? ⟨b, 8, none⟩ = some nilS) : Calls Tryz.prog 29 #[.pointer (some ⟨b, 0, none⟩)] w fun e w' => e = .returned (.bool true) ∧ Below w.heap.size w w' := by
  have hbl : b < w.heap.size := World.block_lt_of_cell? w ⟨b, 8, none⟩ hc
  have HC := Lib.hid hc
  clear hc
  go_enter Tryz.func29, Tryz.ntmps29
  go_wp2_with fail
  go_loopw [3] (fun i wr => i = .int .i64 0 ∧ Below w.heap.size w wr) (fun _ _ => 0)
  case atStart => exact ⟨rfl, Below.refl _ _⟩
  case round =>
    obtain ⟨rfl, hB⟩ := hrel
    have hc := (hB.cell (p := ⟨b, 8, none⟩) hbl).trans HC.out
    go_wp2_with fail
    go_ret
    exact ⟨rfl, hB⟩

theorem put_Parts {w : World} {b : Nat} (hc : w.cell? ⟨b, 8, none⟩ = some nilS) : Calls Tryz.prog 33 #[.pointer (some ⟨b, 0, none⟩)] w fun e w' => e = .returned (.tuple #[]) ∧ Below w.heap.size w w' := by
  have hbl : b < w.heap.size := World.block_lt_of_cell? w ⟨b, 8, none⟩ hc
  have HC := Lib.hid hc
  clear hc
  go_enter Tryz.func33, Tryz.ntmps33
  go_wp2_with fail
  go_loopw [2] (fun i wr => i = .int .i64 0 ∧ Below w.heap.size w wr) (fun _ _ => 0)
  case atStart => exact ⟨rfl, Below.refl _ _⟩
  case round =>
    obtain ⟨rfl, hB⟩ := hrel
    have hc := (hB.cell (p := ⟨b, 8, none⟩) hbl).trans HC.out
    go_wp2_with fail
    go_end0
    exact ⟨rfl, hB⟩

theorem grow_Parts {w : World} {b : Nat} (hc : w.cell? ⟨b, 8, none⟩ = some nilS) : Calls Tryz.prog 45 #[.pointer (some ⟨b, 0, none⟩)] w fun e w' => e = .returned (nilS) ∧ Below w.heap.size w w' := by
  have hbl : b < w.heap.size := World.block_lt_of_cell? w ⟨b, 8, none⟩ hc
  have HC := Lib.hid hc
  clear hc
  go_enter Tryz.func45, Tryz.ntmps45
  go_wp2_with fail
  go_loopw [3, 4] (fun o i wr => o = nilS ∧ i = .int .i64 0 ∧ Below w.heap.size w wr) (fun _ _ _ => 0)
  case atStart => exact ⟨rfl, rfl, Below.refl _ _⟩
  case round =>
    obtain ⟨rfl, rfl, hB⟩ := hrel
    have hc := (hB.cell (p := ⟨b, 8, none⟩) hbl).trans HC.out
    go_wp2_with fail
    go_ret
    exact ⟨rfl, hB⟩

theorem marked_Parts {w : World} : Calls Tryz.prog 53 #[nilS] w fun e w' => e = .returned (.bool true) ∧ Below w.heap.size w w' := by
  go_enter Tryz.func53, Tryz.ntmps53
  go_wp2_with fail
  go_loopw [3] (fun i wr => i = .int .i64 0 ∧ Below w.heap.size w wr) (fun _ _ => 0)
  case atStart => exact ⟨rfl, Below.refl _ _⟩
  case round =>
    obtain ⟨rfl, hB⟩ := hrel
    go_wp2_with fail
    go_ret
    exact ⟨rfl, hB⟩

theorem still_Defs {w : World} {b : Nat} (hc : w.cell? ⟨b, 10, none⟩ = some nilS) : Calls Tryz.prog 30 #[.pointer (some ⟨b, 0, none⟩)] w fun e w' => e = .returned (.bool true) ∧ Below w.heap.size w w' := by
  have hbl : b < w.heap.size := World.block_lt_of_cell? w ⟨b, 10, none⟩ hc
  have HC := Lib.hid hc
  clear hc
  go_enter Tryz.func30, Tryz.ntmps30
  go_wp2_with fail
  go_loopw [3] (fun i wr => i = .int .i64 0 ∧ Below w.heap.size w wr) (fun _ _ => 0)
  case atStart => exact ⟨rfl, Below.refl _ _⟩
  case round =>
    obtain ⟨rfl, hB⟩ := hrel
    have hc := (hB.cell (p := ⟨b, 10, none⟩) hbl).trans HC.out
    go_wp2_with fail
    go_ret
    exact ⟨rfl, hB⟩

theorem put_Defs {w : World} {b : Nat} (hc : w.cell? ⟨b, 10, none⟩ = some nilS) : Calls Tryz.prog 38 #[.pointer (some ⟨b, 0, none⟩)] w fun e w' => e = .returned (.tuple #[]) ∧ Below w.heap.size w w' := by
  have hbl : b < w.heap.size := World.block_lt_of_cell? w ⟨b, 10, none⟩ hc
  have HC := Lib.hid hc
  clear hc
  go_enter Tryz.func38, Tryz.ntmps38
  go_wp2_with fail
  go_loopw [2] (fun i wr => i = .int .i64 0 ∧ Below w.heap.size w wr) (fun _ _ => 0)
  case atStart => exact ⟨rfl, Below.refl _ _⟩
  case round =>
    obtain ⟨rfl, hB⟩ := hrel
    have hc := (hB.cell (p := ⟨b, 10, none⟩) hbl).trans HC.out
    go_wp2_with fail
    go_end0
    exact ⟨rfl, hB⟩

theorem grow_Defs {w : World} {b : Nat} (hc : w.cell? ⟨b, 10, none⟩ = some nilS) : Calls Tryz.prog 46 #[.pointer (some ⟨b, 0, none⟩)] w fun e w' => e = .returned (nilS) ∧ Below w.heap.size w w' := by
  have hbl : b < w.heap.size := World.block_lt_of_cell? w ⟨b, 10, none⟩ hc
  have HC := Lib.hid hc
  clear hc
  go_enter Tryz.func46, Tryz.ntmps46
  go_wp2_with fail
  go_loopw [3, 4] (fun o i wr => o = nilS ∧ i = .int .i64 0 ∧ Below w.heap.size w wr) (fun _ _ _ => 0)
  case atStart => exact ⟨rfl, rfl, Below.refl _ _⟩
  case round =>
    obtain ⟨rfl, rfl, hB⟩ := hrel
    have hc := (hB.cell (p := ⟨b, 10, none⟩) hbl).trans HC.out
    go_wp2_with fail
    go_ret
    exact ⟨rfl, hB⟩

theorem marked_Defs {w : World} : Calls Tryz.prog 54 #[nilS] w fun e w' => e = .returned (.bool true) ∧ Below w.heap.size w w' := by
  go_enter Tryz.func54, Tryz.ntmps54
  go_wp2_with fail
  go_loopw [3] (fun i wr => i = .int .i64 0 ∧ Below w.heap.size w wr) (fun _ _ => 0)
  case atStart => exact ⟨rfl, Below.refl _ _⟩
  case round =>
    obtain ⟨rfl, hB⟩ := hrel
    go_wp2_with fail
    go_ret
    exact ⟨rfl, hB⟩

theorem still_Secs {w : World} {b : Nat} (hc : w.cell? ⟨b, 12, none⟩ = some nilS) : Calls Tryz.prog 31 #[.pointer (some ⟨b, 0, none⟩)] w fun e w' => e = .returned (.bool true) ∧ Below w.heap.size w w' := by
  have hbl : b < w.heap.size := World.block_lt_of_cell? w ⟨b, 12, none⟩ hc
  have HC := Lib.hid hc
  clear hc
  go_enter Tryz.func31, Tryz.ntmps31
  go_wp2_with fail
  go_loopw [3] (fun i wr => i = .int .i64 0 ∧ Below w.heap.size w wr) (fun _ _ => 0)
  case atStart => exact ⟨rfl, Below.refl _ _⟩
  case round =>
    obtain ⟨rfl, hB⟩ := hrel
    have hc := (hB.cell (p := ⟨b, 12, none⟩) hbl).trans HC.out
    go_wp2_with fail
    go_ret
    exact ⟨rfl, hB⟩

theorem put_Secs {w : World} {b : Nat} (hc : w.cell? ⟨b, 12, none⟩ = some nilS) : Calls Tryz.prog 39 #[.pointer (some ⟨b, 0, none⟩)] w fun e w' => e = .returned (.tuple #[]) ∧ Below w.heap.size w w' := by
  have hbl : b < w.heap.size := World.block_lt_of_cell? w ⟨b, 12, none⟩ hc
  have HC := Lib.hid hc
  clear hc
  go_enter Tryz.func39, Tryz.ntmps39
  go_wp2_with fail
  go_loopw [2] (fun i wr => i = .int .i64 0 ∧ Below w.heap.size w wr) (fun _ _ => 0)
  case atStart => exact ⟨rfl, Below.refl _ _⟩
  case round =>
    obtain ⟨rfl, hB⟩ := hrel
    have hc := (hB.cell (p := ⟨b, 12, none⟩) hbl).trans HC.out
    go_wp2_with fail
    go_end0
    exact ⟨rfl, hB⟩

theorem grow_Secs {w : World} {b : Nat} (hc : w.cell? ⟨b, 12, none⟩ = some nilS) : Calls Tryz.prog 47 #[.pointer (some ⟨b, 0, none⟩)] w fun e w' => e = .returned (nilS) ∧ Below w.heap.size w w' := by
  have hbl : b < w.heap.size := World.block_lt_of_cell? w ⟨b, 12, none⟩ hc
  have HC := Lib.hid hc
  clear hc
  go_enter Tryz.func47, Tryz.ntmps47
  go_wp2_with fail
  go_loopw [3, 4] (fun o i wr => o = nilS ∧ i = .int .i64 0 ∧ Below w.heap.size w wr) (fun _ _ _ => 0)
  case atStart => exact ⟨rfl, rfl, Below.refl _ _⟩
  case round =>
    obtain ⟨rfl, rfl, hB⟩ := hrel
    have hc := (hB.cell (p := ⟨b, 12, none⟩) hbl).trans HC.out
    go_wp2_with fail
    go_ret
    exact ⟨rfl, hB⟩

theorem marked_Secs {w : World} : Calls Tryz.prog 55 #[nilS] w fun e w' => e = .returned (.bool true) ∧ Below w.heap.size w w' := by
  go_enter Tryz.func55, Tryz.ntmps55
  go_wp2_with fail
  go_loopw [3] (fun i wr => i = .int .i64 0 ∧ Below w.heap.size w wr) (fun _ _ => 0)
  case atStart => exact ⟨rfl, Below.refl _ _⟩
  case round =>
    obtain ⟨rfl, hB⟩ := hrel
    go_wp2_with fail
    go_ret
    exact ⟨rfl, hB⟩

theorem still_Diags {w : World} {b : Nat} (hc : w.cell? ⟨b, 14, none⟩ = some nilS) : Calls Tryz.prog 32 #[.pointer (some ⟨b, 0, none⟩)] w fun e w' => e = .returned (.bool true) ∧ Below w.heap.size w w' := by
  have hbl : b < w.heap.size := World.block_lt_of_cell? w ⟨b, 14, none⟩ hc
  have HC := Lib.hid hc
  clear hc
  go_enter Tryz.func32, Tryz.ntmps32
  go_wp2_with fail
  go_loopw [3] (fun i wr => i = .int .i64 0 ∧ Below w.heap.size w wr) (fun _ _ => 0)
  case atStart => exact ⟨rfl, Below.refl _ _⟩
  case round =>
    obtain ⟨rfl, hB⟩ := hrel
    have hc := (hB.cell (p := ⟨b, 14, none⟩) hbl).trans HC.out
    go_wp2_with fail
    go_ret
    exact ⟨rfl, hB⟩

theorem put_Diags {w : World} {b : Nat} (hc : w.cell? ⟨b, 14, none⟩ = some nilS) : Calls Tryz.prog 40 #[.pointer (some ⟨b, 0, none⟩)] w fun e w' => e = .returned (.tuple #[]) ∧ Below w.heap.size w w' := by
  have hbl : b < w.heap.size := World.block_lt_of_cell? w ⟨b, 14, none⟩ hc
  have HC := Lib.hid hc
  clear hc
  go_enter Tryz.func40, Tryz.ntmps40
  go_wp2_with fail
  go_loopw [2] (fun i wr => i = .int .i64 0 ∧ Below w.heap.size w wr) (fun _ _ => 0)
  case atStart => exact ⟨rfl, Below.refl _ _⟩
  case round =>
    obtain ⟨rfl, hB⟩ := hrel
    have hc := (hB.cell (p := ⟨b, 14, none⟩) hbl).trans HC.out
    go_wp2_with fail
    go_end0
    exact ⟨rfl, hB⟩

theorem grow_Diags {w : World} {b : Nat} (hc : w.cell? ⟨b, 14, none⟩ = some nilS) : Calls Tryz.prog 48 #[.pointer (some ⟨b, 0, none⟩)] w fun e w' => e = .returned (nilS) ∧ Below w.heap.size w w' := by
  have hbl : b < w.heap.size := World.block_lt_of_cell? w ⟨b, 14, none⟩ hc
  have HC := Lib.hid hc
  clear hc
  go_enter Tryz.func48, Tryz.ntmps48
  go_wp2_with fail
  go_loopw [3, 4] (fun o i wr => o = nilS ∧ i = .int .i64 0 ∧ Below w.heap.size w wr) (fun _ _ _ => 0)
  case atStart => exact ⟨rfl, rfl, Below.refl _ _⟩
  case round =>
    obtain ⟨rfl, rfl, hB⟩ := hrel
    have hc := (hB.cell (p := ⟨b, 14, none⟩) hbl).trans HC.out
    go_wp2_with fail
    go_ret
    exact ⟨rfl, hB⟩

theorem marked_Diags {w : World} : Calls Tryz.prog 56 #[nilS] w fun e w' => e = .returned (.bool true) ∧ Below w.heap.size w w' := by
  go_enter Tryz.func56, Tryz.ntmps56
  go_wp2_with fail
  go_loopw [3] (fun i wr => i = .int .i64 0 ∧ Below w.heap.size w wr) (fun _ _ => 0)
  case atStart => exact ⟨rfl, Below.refl _ _⟩
  case round =>
    obtain ⟨rfl, hB⟩ := hrel
    go_wp2_with fail
    go_ret
    exact ⟨rfl, hB⟩

end Go.Proofs.YtbblgnbafecdmaaGreatDoor.bk
