/- number.digits: the walk. -/
import Derived.Test.YtbblgnbafecdmaaDoorNumDots
import Derived.Test.YtbblgnbafecdmaaDoorNext
namespace Go.Proofs.YtbblgnbafecdmaaDoor
open Go.RowKit Go.Lib

set_option maxHeartbeats 1000000 in
theorem digits_any {w : World} (hT : Tabs w) (A : ByteArray) (n : Nat) (hA : A.size ≤ 100000) (hn : n ≤ 100000) :
    Calls Tryd.prog 9 #[.string A, .int .i64 n] w fun e w' => e = .returned (.string ⟨(digs A.data.toList n).toArray⟩) ∧ Below w.heap.size w w' := by
  have cIt := fun (w' : World) (h : Below w.heap.size w w') => itoa_from (w0 := w) hT h (n : Int) (by omega) (by omega)
  have hil := itoa_len21 n hn
  obtain ⟨Z, hZ⟩ : ∃ Z : ByteArray, (⟨(Lib.itoa (n : Int)).toArray⟩ : ByteArray) = Z := ⟨_, rfl⟩
  have hZl : Z.data.toList = Lib.itoa (n : Int) := by rw [← hZ]
  have hZs : Z.size ≤ 21 := by rw [ba_size, hZl]; exact hil
  rw [hZ] at cIt
  replace hZ := Lib.hid hZ
  replace hZl := Lib.hid hZl
  have HT := Lib.hid hT
  clear hT hil
  by_cases h0 : A.size = 0
  · have hA0 : A.data.toList = [] := List.eq_nil_of_length_eq_zero (by rw [← ba_size]; exact h0)
    have hd : digs A.data.toList n = Z.data.toList := by unfold digs; rw [if_pos hA0, hZl.out]
    replace hd := Lib.hid hd
    replace hA0 := Lib.hid hA0
    replace h0 := Lib.hid h0
    go_enter Tryd.func9, Tryd.ntmps9
    go_wp2_with fail
    go_loopw [] (fun wr => wr.heap[w.heap.size]? = some (.stringIter A 0) ∧ Below w.heap.size w wr) (fun wr => 0)
    case atStart => exact ⟨by have := World.iter_heap w A 0; simpa using this, (Below.refl _ _).alloc (Nat.le_refl _) _⟩
    case round =>
      obtain ⟨hit, hB⟩ := hrel
      have hit2 := iter_end hit (by rw [h0.out]; omega)
      go_wp2_with fail
      refine (cIt _ hB).mono ?_
      rintro e w2 ⟨rfl, hb2⟩
      go_wp2_with fail
      go_ret
      rw [hd.out]
      exact ⟨rfl, hB.trans (hb2.mono hB.size)⟩
  · have hA0 : A.data.toList ≠ [] := fun e => h0 (by rw [ba_size, e]; rfl)
    have hd : digs A.data.toList n = (A ++ ⟨#[46]⟩ ++ Z).data.toList := by
      unfold digs; rw [if_neg hA0, ba_append, ba_append, hZl.out]
      simp
    replace hd := Lib.hid hd
    replace hA0 := Lib.hid hA0
    go_enter Tryd.func9, Tryd.ntmps9
    go_wp2_with fail
    go_loopw [] (fun wr => wr.heap[w.heap.size]? = some (.stringIter A 0) ∧ Below w.heap.size w wr) (fun wr => 0)
    case atStart => exact ⟨by have := World.iter_heap w A 0; simpa using this, (Below.refl _ _).alloc (Nat.le_refl _) _⟩
    case round =>
      obtain ⟨hit, hB⟩ := hrel
      obtain ⟨r, m, hn1, hpn, hrl, hnx, HI, hbw2, hsz2, -⟩ := iter_step hit (show 0 < A.size by omega) hB (Nat.le_refl _)
      rw [Nat.zero_add] at hbw2
      go_wp2_with fail
      refine (cIt _ hbw2).mono ?_
      rintro e w2 ⟨rfl, hb2⟩
      go_wp2_with fail
      go_ret
      rw [hd.out]
      exact ⟨rfl, hbw2.trans (hb2.mono hbw2.size)⟩
end Go.Proofs.YtbblgnbafecdmaaDoor
