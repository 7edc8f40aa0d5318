/- flank.Around: the walk. -/
import Derived.Test.YtdpcpliplbbfmaaDoorFlank
import Derived.Test.YtdpcpliplbbfmaaDoorShelf
import Derived.Lib.OthersKept
import Derived.Lib.TrimUEq
import Derived.BigCall
namespace Go.Proofs.YtdpcpliplbbfmaaDoor
open Go.RowKit

theorem tabs_below {g3 g4 : Nat} {B : Nat} {w w' : World} (h : Lib.Utf8Tabs g3 g4 w) (hb : Below B w w') (h3 : g3 < B) (h4 : g4 < B) : Lib.Utf8Tabs g3 g4 w' :=
  ⟨fun c hc => (hb.cell (p := ⟨g3, c, none⟩) h3).trans (h.1 c hc), fun i hi => ⟨(hb.cell (p := ⟨g4, 2 * i, none⟩) h4).trans (h.2 i hi).1, (hb.cell (p := ⟨g4, 2 * i + 1, none⟩) h4).trans (h.2 i hi).2⟩⟩

theorem width_pos (s : ByteArray) (pos : Nat) (h : pos < s.size) : 1 ≤ (Utf8.decode s pos).2 := by
  by_cases ha : (s[pos]'h).toNat < 128
  · rw [decode_ascii s pos h ha]
    exact Nat.le_refl _
  · exact (decode_high s pos h (by omega)).2

theorem width_le (s : ByteArray) (pos : Nat) : (Utf8.decode s pos).2 ≤ 4 := by
  rw [Lib.decode_at]
  unfold Lib.decodeN
  repeat' split
  all_goals (dsimp only; omega)

/-- the decoder at the rest of a text is the decoder at its place -/
theorem decodeGo_extract (s : ByteArray) (pos : Nat) (h : pos < s.size) : Lib.decodeGo (s.extract pos s.size) = Utf8.decode s pos := by
  have h1 := Lib.decodeL_drop s pos
  have h2 := Lib.decodeL_drop (s.extract pos s.size) 0
  rw [List.drop_zero, Lib.extract_to_end] at h2
  unfold Lib.decodeGo
  rw [if_neg (by simp; omega), ← h2, h1]

/-- the runes around two places, from place pos on -/
def aroundGo (s : ByteArray) (frm to : Int) : Nat → Nat → Int → Int → Int × Int
  | 0, _, b, a => (b, a)
  | f + 1, pos, b, a =>
    if pos < s.size then
      aroundGo s frm to f (pos + (Utf8.decode s pos).2)
        (if (pos : Int) + (Utf8.decode s pos).2 = frm then (if (Utf8.decode s pos).1 = 0 then 97 else ((Utf8.decode s pos).1 : Int)) else b)
        (if (pos : Int) = to then (if (Utf8.decode s pos).1 = 0 then 97 else ((Utf8.decode s pos).1 : Int)) else a)
    else (b, a)

theorem aroundGo_end (s : ByteArray) (frm to : Int) (f pos : Nat) (b a : Int) (h : ¬ pos < s.size) : aroundGo s frm to f pos b a = (b, a) := by
  cases f with
  | zero => rfl
  | succ f => simp [aroundGo, h]

set_option maxHeartbeats 1000000 in
theorem around_from {w0 w : World} (s : ByteArray) (frm to : Int) (h : Below w0.heap.size w0 w) (hT : Lib.Utf8Tabs 0 1 w0) (h3 : 0 < w0.heap.size) (h4 : 1 < w0.heap.size) (hs : s.size ≤ 140737488355328) :
    Calls Tryd.prog 12 #[.string s, .int .i64 frm, .int .i64 to] w fun e w' => e = .returned (.tuple #[.int .i32 (aroundGo s frm to s.size 0 10 10).1, .int .i32 (aroundGo s frm to s.size 0 10 10).2]) ∧ Below w0.heap.size w0 w' := by
  have HT := Lib.hid hT
  clear hT
  have hsz0 := h.size
  go_enter Tryd.func12, Tryd.ntmps12
  go_wp2_with fail
  go_loopw [8, 9] (fun vb va wr => ∃ (pos fuel : Nat) (b a : Int), vb = .int .i32 b ∧ va = .int .i32 a ∧ wr.heap[w.heap.size]? = some (.stringIter s pos) ∧ Below w0.heap.size w0 wr ∧ aroundGo s frm to fuel pos b a = aroundGo s frm to s.size 0 10 10 ∧ s.size ≤ pos + fuel) (fun _ _ wr => s.size - wr.iterPos w.heap.size)
  case atStart => exact ⟨0, s.size, 10, 10, rfl, rfl, World.iter_heap w s 0, h.alloc hsz0 _, rfl, by omega⟩
  case round =>
    obtain ⟨pos, fuel, b, a, rfl, rfl, hit, hbw, hacc, hfu⟩ := hrel
    have hsz : w.heap.size < wr.heap.size := (Array.getElem?_eq_some_iff.1 hit).1
    have HA := Lib.hid hacc
    clear hacc
    by_cases hp : pos < s.size
    · have hnx : ∀ ty, (Instr.next (.pointer (some ⟨w.heap.size, 0, none⟩)) true ty).run Tryd.prog wr = _ := fun ty => Lib.run_next_any_at wr w.heap.size s pos ty hit hp
      have hwd := width_pos s pos hp
      have hd1 := decode_le s pos
      have hit2 := Lib.iterAt_heap wr w.heap.size s pos (pos + (Utf8.decode s pos).2) hit
      have hbw2 := Lib.below_iterAt hbw (k := w.heap.size) hsz0 s (pos + (Utf8.decode s pos).2)
      have hsz2 : w.heap.size < (wr.iterAt w.heap.size s (pos + (Utf8.decode s pos).2)).heap.size := by rw [Lib.iterAt_size]; omega
      obtain ⟨f, rfl⟩ : ∃ f, fuel = f + 1 := ⟨fuel - 1, by omega⟩
      have HI := Lib.hid hit2
      have hde := decodeGo_extract s pos hp
      have HD := Lib.hid hde
      have hrl : (Utf8.decode s pos).1 ≤ 1114111 := Lib.rune_le s pos
      have HS := Lib.hid (show aroundGo s frm to (f + 1) pos b a = _ from by rw [aroundGo, if_pos hp])
      have HIT := Lib.hid hit
      have hw4 : (Utf8.decode s pos).2 ≤ 4 := width_le s pos
      clear hit2 hit hde
      go_wp2_with fail
      refine (Tryd.utf8_DecodeRuneInString _ _ (tabs_below HT.out hbw2 h3 h4)).mono ?_
      rintro e w1 ⟨rfl, hb1⟩
      rw [HD.out]
      have hB1 := hbw2.trans (hb1.mono hbw2.size)
      have HI1 := Lib.hid ((hb1.block w.heap.size hsz2).trans HI.out)
      clear hb1 HI HD hbw2 hnx hsz2
      generalize Utf8.decode s pos = d at *
      obtain ⟨r, n⟩ := d
      simp only at *
      have e0 : ((r : Int) == 0) = decide (r = 0) := by by_cases hr : r = 0 <;> simp [hr]
      have e1 : ((pos : Int) + n == frm) = decide ((pos : Int) + n = frm) := by by_cases hr : (pos : Int) + n = frm <;> simp [hr]
      have e2 : ((pos : Int) == to) = decide ((pos : Int) = to) := by by_cases hr : (pos : Int) = to <;> simp [hr]
      by_cases hr : r = 0 <;> by_cases hf : (pos : Int) + n = frm <;> by_cases ht : (pos : Int) = to
      all_goals
        first | rw [decide_eq_true hr] at e0 | rw [decide_eq_false hr] at e0
        first | rw [decide_eq_true hf] at e1 | rw [decide_eq_false hf] at e1
        first | rw [decide_eq_true ht] at e2 | rw [decide_eq_false ht] at e2
        have G0 := Lib.hid hr
        have G1 := Lib.hid hf
        have G2 := Lib.hid ht
        clear hr hf ht
        go_wp2_with fail
        go_roundw
        case rel =>
          refine ⟨pos + n, f, _, _, rfl, rfl, HI1.out, hB1, ?_, by omega⟩
          rw [← HA.out, HS.out]
          first | rw [if_pos G1.out] | rw [if_neg G1.out]
          first | rw [if_pos G2.out] | rw [if_neg G2.out]
          try first | rw [if_pos G0.out] | rw [if_neg G0.out]
        case measure =>
          simp only [World.iterPos, HI1.out, HIT.out]
          omega
    · have hnx : ∀ ty, (Instr.next (.pointer (some ⟨w.heap.size, 0, none⟩)) true ty).run Tryd.prog wr = _ := fun ty => Lib.run_next_end_at wr w.heap.size s pos ty hit hp
      go_wp2_with fail
      go_ret2
      have := HA.out
      rw [aroundGo_end s frm to fuel pos b a hp] at this
      rw [← this]
      exact ⟨rfl, hbw⟩
end Go.Proofs.YtdpcpliplbbfmaaDoor
