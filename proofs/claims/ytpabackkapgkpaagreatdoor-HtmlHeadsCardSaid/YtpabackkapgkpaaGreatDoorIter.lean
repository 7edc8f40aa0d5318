/- A range over a string, the iterator's block at a known place: what one step does, in one parcel. -/
import Derived.Test.YtpabackkapgkpaaGreatDoorPlain
import Derived.Test.YtpabackkapgkpaaGreatDoorProg
import Derived.WalkKit
import Derived.Lib.Hide
import Derived.Lib.OthersKept
import Derived.Lib.TrimUEq
namespace Go.Proofs.YtpabackkapgkpaaGreatDoor
open Go.RowKit Go.Lib

theorem it_ne {s : ByteArray} {pos : Nat} (hp : pos < s.size) : s.data.toList.drop pos ≠ [] := by
  intro hn
  have := congrArg List.length hn
  have hz : s.size = s.data.toList.length := by cases s; rfl
  rw [List.length_drop, ← hz] at this
  simp at this; omega

/-- the step: the rune r, its n bytes -/
theorem iter_step {B : Nat} {w0 wr : World} {k : Nat} {s : ByteArray} {pos : Nat} (hit : wr.heap[k]? = some (.stringIter s pos)) (hp : pos < s.size) (hB : Below B w0 wr) (hk : B ≤ k) :
    ∃ r n : Nat, 1 ≤ n ∧ pos + n ≤ s.size ∧ r ≤ 1114111 ∧
      (∀ ty, (Instr.next (.pointer (some ⟨k, 0, none⟩)) true ty).run Tryz.prog wr = .ok (.tuple #[.bool true, .int .i64 pos, .int .i32 (r : Int)]) (wr.iterAt k s (pos + n))) ∧
      Hid ((wr.iterAt k s (pos + n)).heap[k]? = some (.stringIter s (pos + n))) ∧
      Below B w0 (wr.iterAt k s (pos + n)) ∧ k < (wr.iterAt k s (pos + n)).heap.size ∧
      Hid (wr.iterPos k = pos) ∧ Hid ((wr.iterAt k s (pos + n)).iterPos k = pos + n) ∧
      Hid (decodeL (s.data.toList.drop pos) = (r, n)) ∧ Hid (s.data.toList.drop pos ≠ []) ∧
      Hid (GoodTok (r, (s.data.toList.drop pos).take n)) ∧
      Hid (toks (s.data.toList.drop pos) = (r, (s.data.toList.drop pos).take n) :: toks (s.data.toList.drop (pos + n))) ∧
      Hid (s.data.toList.take (pos + n) = s.data.toList.take pos ++ (s.data.toList.drop pos).take n) := by
  have hlt : k < wr.heap.size := (Array.getElem?_eq_some_iff.1 hit).1
  have hne := it_ne hp
  have hz : s.size = s.data.toList.length := by cases s; rfl
  have hwd := decodeL_width (s.data.toList.drop pos)
  have hdl := decodeL_le _ hne
  rw [List.length_drop, ← hz] at hdl
  have hg := good_head _ hne
  have ht := toks_step _ hne
  have hd := decodeL_drop s pos
  rw [hd] at hwd hdl hg ht
  rw [List.drop_drop] at ht
  have hit2 := Lib.iterAt_heap wr k s pos (pos + (Utf8.decode s pos).2) hit
  refine ⟨(Utf8.decode s pos).1, (Utf8.decode s pos).2, hwd, by omega, rune_le s pos, fun ty => Lib.run_next_any_at wr k s pos ty hit hp, hit2, Lib.below_iterAt hB hk s _, by rw [Lib.iterAt_size]; exact hlt, ?_, ?_, hd, hne, hg, ht, List.take_add⟩
  · show wr.iterPos k = pos
    simp only [World.iterPos, hit]
  · show (wr.iterAt k s _).iterPos k = _
    simp only [World.iterPos, hit2]

theorem iterPos_at {w : World} {k : Nat} {s : ByteArray} {p : Nat} (h : w.heap[k]? = some (.stringIter s p)) : w.iterPos k = p := by simp only [World.iterPos, h]

/-- the end -/
theorem iter_end {wr : World} {k : Nat} {s : ByteArray} {pos : Nat} (hit : wr.heap[k]? = some (.stringIter s pos)) (hp : ¬ pos < s.size) :
    ∀ ty, (Instr.next (.pointer (some ⟨k, 0, none⟩)) true ty).run Tryz.prog wr = .ok (.tuple #[.bool false]) wr := fun ty => Lib.run_next_end_at wr k s pos ty hit hp
end Go.Proofs.YtpabackkapgkpaaGreatDoor
