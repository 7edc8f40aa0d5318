/- (*strings.Builder).String on the builder of a paper. -/
import Derived.Test.YtpabackkapgkpaaGreatDoorPaper
namespace Go.Proofs.YtpabackkapgkpaaGreatDoor
open Go.RowKit Go.Lib

theorem cells_byte : Tryz.prog.cellsOf 5 = 1 := by kernel_rfl
/-- behind String(): what the builder held; nothing that is no row of bytes has changed -/
def ReadPost (B : Nat) (l : List UInt8) (w : World) (e : Ending) (w' : World) : Prop :=
  e = .returned (.string ⟨l.toArray⟩) ∧ Below B w w' ∧ Lib.OthersKept 5 none w w'

set_option maxHeartbeats 1000000 in
set_option maxRecDepth 100000 in
theorem pen_read_some {B b : Nat} {wr p dg : Value} {l : List UInt8} {w : World} (h : PaperAt B b wr p dg l w) (h0 : l ≠ []) :
    Calls Tryz.prog 27 #[.pointer (some ⟨b, 1, none⟩)] w (ReadPost B l w) := by
  obtain ⟨hB, v, hbk, hown⟩ := h
  have hl0 : l.length ≠ 0 := by simpa using h0
  obtain ⟨g, cap, cur, fz, rfl, hbg, hg, hfz, hnc, hcm, hcs, htake⟩ : ∃ g cap cur fz, v = .slice (some ⟨g, 0, none⟩) l.length cap ∧ B ≤ g ∧ w.heap[g]? = some (.cells cur 5 fz) ∧ fz.2 ≤ l.length * 1 ∧ l.length ≤ cap ∧ cap ≤ maxLen ∧ cur.size = cap * 1 ∧ cur.toList.take (l.length * 1) = Lib.byteCells l := by
    rcases hown.2 with ⟨_, hz⟩ | ⟨g, cap, cur, fz, hv, r⟩
    · exact absurd hz hl0
    · exact ⟨g, cap, cur, fz, hv, r⟩
  have c1 : w.drew.cell? ⟨b, 2, none⟩ = some (.slice (some ⟨g, 0, none⟩) l.length cap) := by
    have : w.drew.heap[b]? = some (.cells #[wr, p, .slice (some ⟨g, 0, none⟩) l.length cap, dg] 74 (0, 0)) := hbk
    rw [Lib.cell_of_heap this]; rfl
  have c2 : w.cell? ⟨b, 2, none⟩ = some (.slice (some ⟨g, 0, none⟩) l.length cap) := c1
  have hSD : (Builtin.unsafeSliceData_ #[62] 98 #[.slice (some ⟨g, 0, none⟩) l.length cap]).run Tryz.prog w.drew = .ok (.pointer (some ⟨g, 0, none⟩)) w.drew :=
    Lib.run_unsafeSliceData_row _ _ _ _ _ _ (by omega)
  have hUS : (Builtin.unsafeString_ #[98, 3] 9 #[.pointer (some ⟨g, 0, none⟩), .int .i64 l.length]).run Tryz.prog w.drew = .ok (.string ⟨l.toArray⟩) (w.drew.freeze ⟨g, 0, none⟩ l.length) := by
    refine Lib.run_unsafeString_row w.drew 98 3 9 5 Tryz.underlying98 cells_byte g cur.size (by have hg' : w.drew.heap[g]? = some (.cells cur 5 fz) := hg; simp [World.shape?, hg']) l h0 (by omega) (by unfold maxLen at hcm; omega) ?_
    intro j x hx
    have := hown.cells (g := g) rfl j (.int .u8 x.toNat) (by simp [Lib.byteCells, hx])
    exact this
  have HP : Hid (∀ e w', e = .returned (.string ⟨l.toArray⟩) → w' = w.drew.freeze ⟨g, 0, none⟩ l.length → ReadPost B l w e w') := by
    rintro e w' rfl rfl
    exact ⟨rfl, Lib.below_freeze (Below.drew (Below.refl B w)) (p := ⟨g, 0, none⟩) hbg _, ((Lib.OthersKept.refl _ _ w).drew).freeze ⟨g, 0, none⟩ _ ⟨cur, fz, hg⟩⟩
  clear hbk hown hg htake
  go_enter Tryz.func27, Tryz.ntmps27
  go_wp2_with fail
  go_region
  all_goals (go_wp2_with fail; go_ret; exact HP.out _ _ rfl rfl)

theorem unsafeString_none (W : World) (q : Option Addr) : (Builtin.unsafeString_ #[98, 3] 9 #[.pointer q, .int .i64 0]).run Tryz.prog W = .ok (.string .empty) W := Lib.run_unsafeString_none W _ _ _ q

set_option maxHeartbeats 1000000 in
set_option maxRecDepth 100000 in
theorem pen_read_nil {B b : Nat} {wr p dg : Value} {w : World} (hbk : w.heap[b]? = some (.cells #[wr, p, .slice none 0 0, dg] 74 (0, 0))) :
    Calls Tryz.prog 27 #[.pointer (some ⟨b, 1, none⟩)] w (ReadPost B [] w) := by
  have hUS := unsafeString_none
  have hlt : b < w.heap.size := (Array.getElem?_eq_some_iff.1 hbk).1
  have c1 : w.drew.cell? ⟨b, 2, none⟩ = some (.slice none 0 0) := by
    have : w.drew.heap[b]? = some (.cells #[wr, p, .slice none 0 0, dg] 74 (0, 0)) := hbk
    rw [Lib.cell_of_heap this]; rfl
  have c0 : w.cell? ⟨b, 2, none⟩ = some (.slice none 0 0) := c1
  have hSD : (Builtin.unsafeSliceData_ #[62] 98 #[.slice none 0 0]).run Tryz.prog w.drew = .ok (.pointer none) w.drew := rfl

  have HP : Hid (∀ e w', e = .returned (.string ⟨#[]⟩) → w' = w.drew → ReadPost B [] w e w') := by
    rintro e w' rfl rfl
    exact ⟨rfl, Below.drew (Below.refl B w), (Lib.OthersKept.refl _ _ w).drew⟩
  clear hbk
  go_enter Tryz.func27, Tryz.ntmps27
  go_wp2_with fail
  go_region
  all_goals (go_wp2_with fail; go_ret; exact HP.out _ _ rfl rfl)

set_option maxHeartbeats 1000000 in
set_option maxRecDepth 100000 in
theorem pen_read_room {B b g cap : Nat} {wr p dg : Value} {w : World} (hc0 : cap ≠ 0) (hbk : w.heap[b]? = some (.cells #[wr, p, .slice (some ⟨g, 0, none⟩) 0 cap, dg] 74 (0, 0))) :
    Calls Tryz.prog 27 #[.pointer (some ⟨b, 1, none⟩)] w (ReadPost B [] w) := by
  have hUS := unsafeString_none
  have hlt : b < w.heap.size := (Array.getElem?_eq_some_iff.1 hbk).1
  have c1 : w.drew.cell? ⟨b, 2, none⟩ = some (.slice (some ⟨g, 0, none⟩) 0 cap) := by
    have : w.drew.heap[b]? = some (.cells #[wr, p, .slice (some ⟨g, 0, none⟩) 0 cap, dg] 74 (0, 0)) := hbk
    rw [Lib.cell_of_heap this]; rfl
  have c0 : w.cell? ⟨b, 2, none⟩ = some (.slice (some ⟨g, 0, none⟩) 0 cap) := c1
  have hSD : (Builtin.unsafeSliceData_ #[62] 98 #[.slice (some ⟨g, 0, none⟩) 0 cap]).run Tryz.prog w.drew = .ok (.pointer (some ⟨g, 0, none⟩)) w.drew :=
    Lib.run_unsafeSliceData_row _ _ _ _ _ _ hc0
  clear hc0

  have HP : Hid (∀ e w', e = .returned (.string ⟨#[]⟩) → w' = w.drew → ReadPost B [] w e w') := by
    rintro e w' rfl rfl
    exact ⟨rfl, Below.drew (Below.refl B w), (Lib.OthersKept.refl _ _ w).drew⟩
  clear hbk
  go_enter Tryz.func27, Tryz.ntmps27
  go_wp2_with fail
  go_region
  all_goals (go_wp2_with fail; go_ret; exact HP.out _ _ rfl rfl)

set_option maxHeartbeats 1000000 in
set_option maxRecDepth 100000 in
theorem pen_read_noroom {B b g : Nat} {wr p dg : Value} {w : World} {cur : Array Value} {fz : Nat × Nat} (hBw : B ≤ w.heap.size) (hg : w.heap[g]? = some (.cells cur 5 fz)) (hbk : w.heap[b]? = some (.cells #[wr, p, .slice (some ⟨g, 0, none⟩) 0 0, dg] 74 (0, 0))) :
    Calls Tryz.prog 27 #[.pointer (some ⟨b, 1, none⟩)] w (ReadPost B [] w) := by
  have hUS := unsafeString_none
  have hlt : b < w.heap.size := (Array.getElem?_eq_some_iff.1 hbk).1
  have c1 : w.drew.cell? ⟨b, 2, none⟩ = some (.slice (some ⟨g, 0, none⟩) 0 0) := by
    have : w.drew.heap[b]? = some (.cells #[wr, p, .slice (some ⟨g, 0, none⟩) 0 0, dg] 74 (0, 0)) := hbk
    rw [Lib.cell_of_heap this]; rfl
  have c0 : w.cell? ⟨b, 2, none⟩ = some (.slice (some ⟨g, 0, none⟩) 0 0) := c1
  have hSD : (Builtin.unsafeSliceData_ #[62] 98 #[.slice (some ⟨g, 0, none⟩) 0 0]).run Tryz.prog w.drew = .ok (.pointer (some ⟨w.drew.heap.size, 0, none⟩)) (w.drew.alloc (.view ⟨g, 0, none⟩ 5)) :=
    Lib.run_unsafeSliceData_zero w.drew _ _ 5 Tryz.underlying98 ⟨g, 0, none⟩ 0 (5, cur.size) (by have hg' : w.drew.heap[g]? = some (.cells cur 5 fz) := hg; simp [World.shape?, hg'])
  have c2 : (w.drew.alloc (.view ⟨g, 0, none⟩ 5)).cell? ⟨b, 2, none⟩ = some (.slice (some ⟨g, 0, none⟩) 0 0) := by
    have : (w.drew.alloc (.view ⟨g, 0, none⟩ 5)).heap[b]? = _ := (Lib.alloc_old w.drew _ b hlt).trans hbk
    rw [Lib.cell_of_heap this]; rfl
  have c3 : (w.alloc (.view ⟨g, 0, none⟩ 5)).drew.cell? ⟨b, 2, none⟩ = some (.slice (some ⟨g, 0, none⟩) 0 0) := c2
  have HP : Hid (∀ e w', e = .returned (.string ⟨#[]⟩) → w' = w.drew.alloc (.view ⟨g, 0, none⟩ 5) → ReadPost B [] w e w') := by
    rintro e w' rfl rfl
    exact ⟨rfl, (Below.drew (Below.refl B w)).alloc hBw _, ((Lib.OthersKept.refl _ _ w).drew).alloc _⟩
  clear hbk
  go_enter Tryz.func27, Tryz.ntmps27
  go_wp2_with fail
  go_region
  all_goals (go_wp2_with fail; go_ret; exact HP.out _ _ rfl rfl)

theorem pen_read {B b : Nat} {wr dg : Value} {l : List UInt8} {w : World} (h : IsPaper B b wr dg l w) (hBw : B ≤ w.heap.size) :
    Calls Tryz.prog 27 #[.pointer (some ⟨b, 1, none⟩)] w (ReadPost B l w) := by
  obtain ⟨p, h⟩ : ∃ p, PaperAt B b wr p dg l w := by
    rcases h with h | h
    · exact ⟨_, h⟩
    · exact ⟨_, h⟩
  cases l with
  | cons x r => exact pen_read_some h (by simp)
  | nil =>
    obtain ⟨hB, v, hbk, hown⟩ := h
    rcases hown.2 with ⟨rfl, _⟩ | ⟨g, cap, cur, fz, rfl, hbg, hg, _⟩
    · exact pen_read_nil hbk
    · by_cases hc0 : cap = 0
      · subst hc0
        exact pen_read_noroom hBw hg hbk
      · exact pen_read_room hc0 hbk
end Go.Proofs.YtpabackkapgkpaaGreatDoor
