/- escape.Text and its reference: the walks. -/
import Derived.Test.YtpabackkapgkpaaGreatDoorPlainEsc
import Derived.WalkKit
import Derived.WalkSpells
import Derived.WalkLawsBesides
import Derived.Lib.Hide
import Derived.Lib.OthersKept
import Derived.Lib.TrimUEq
import Derived.BigCall
import Derived.Deep.RegionWith
namespace Go.Proofs.YtpabackkapgkpaaGreatDoor
open Go.RowKit Go.Lib

set_option maxHeartbeats 1000000 in
theorem text_from {w0 w : World} (s : ByteArray) (h : Below w0.heap.size w0 w) (hs : s.size ≤ 2000000) :
    Calls Tryz.prog 18 #[.string s] w fun e w' => e = .returned (.string ⟨(escL s.data.toList).toArray⟩) ∧ Below w0.heap.size w0 w' := by
  have hsz0 := h.size
  go_enter Tryz.func18, Tryz.ntmps18
  go_wp2_with fail
  go_loopw [4] (fun vf wr => ∃ (pos frm : Nat) (acc : List UInt8), vf = .int .i64 frm ∧ Holds w.heap.size acc wr ∧ wr.heap[w.heap.size + 1]? = some (.stringIter s pos) ∧ Below w0.heap.size w0 wr ∧ acc ++ (s.data.toList.take pos).drop frm = escL (s.data.toList.take pos) ∧ frm ≤ pos ∧ pos ≤ s.size) (fun _ wr => s.size - wr.iterPos (w.heap.size + 1))
  case atStart =>
    refine ⟨0, 0, [], rfl, (Holds.fresh w).alloc _, ?_, (h.alloc hsz0 _).alloc (by simp; omega) _, by simp [escL], Nat.le_refl _, Nat.zero_le _⟩
    have := World.iter_heap (w.alloc (.cells #[.pointer none, .slice none 0 0] 72)) s 0
    simpa using this
  case round =>
    obtain ⟨pos, frm, acc, rfl, hI, hit, hbw, hacc, hfp, hps⟩ := hrel
    have hsz : w.heap.size + 1 < wr.heap.size := (Array.getElem?_eq_some_iff.1 hit).1
    have HA := Lib.hid hacc
    have hal : acc.length ≤ 12000000 := by
      have h1 := congrArg List.length hacc
      have h2 := escL_length (s.data.toList.take pos)
      rw [List.length_append] at h1
      rw [List.length_take, ← ba_size] at h2
      omega
    clear hacc
    by_cases hp : pos < s.size
    · have hnx : ∀ ty, (Instr.next (.pointer (some ⟨w.heap.size + 1, 0, none⟩)) true ty).run Tryz.prog wr = _ := fun ty => Lib.run_next_any_at wr (w.heap.size + 1) s pos ty hit hp
      have hd1 := decode_le s pos
      have hI2 := hI.iterAt hit (pos + (Utf8.decode s pos).2)
      have hit2 := Lib.iterAt_heap wr (w.heap.size + 1) s pos (pos + (Utf8.decode s pos).2) hit
      have hbw2 := Lib.below_iterAt hbw (k := w.heap.size + 1) (by omega) s (pos + (Utf8.decode s pos).2)
      have hsz2 : w.heap.size + 1 < (wr.iterAt (w.heap.size + 1) s (pos + (Utf8.decode s pos).2)).heap.size := by rw [Lib.iterAt_size]; omega
      have HI := Lib.hid hit2
      have HIT := Lib.hid hit
      have hwd := decodeL_width (s.data.toList.drop pos)
      have hne : s.data.toList.drop pos ≠ [] := by
        intro hn
        have := congrArg List.length hn
        rw [List.length_drop, ← ba_size] at this
        simp at this; omega
      have hdl := decodeL_le _ hne
      have hg := good_head _ hne
      rw [List.length_drop, ← ba_size] at hdl
      have hrl : (Utf8.decode s pos).1 ≤ 1114111 := rune_le s pos
      rw [decodeL_drop] at hwd hdl hg
      have HG := Lib.hid hg
      have hst := take_more s.data.toList pos (Utf8.decode s pos).2
      have HST := Lib.hid hst
      clear hit2 hit hI hg hst hne
      generalize Utf8.decode s pos = d at *
      obtain ⟨r, n⟩ := d
      simp only at *
      have hfi : (frm : Int) ≤ pos := by omega
      have hfl : frm ≤ s.size := by omega
      rcases escRune_cases r with ⟨hr, he⟩ | ⟨hr, he⟩ | ⟨hr, he⟩ | ⟨hr, he⟩ | ⟨hr, he⟩ | ⟨n1, n2, n3, n4, n5, he⟩
      · have HE := Lib.hid he
        clear he
        subst hr
        obtain ⟨hn1, hs2⟩ := esc_step_some HA.out HG.out HE.out (by rw [← ba_size]; omega)
        have HS2 := Lib.hid hs2
        clear hs2
        subst hn1
        go_wp2_with fail
        refine (write_str (t := (s.data.toList.take pos).drop frm ++ [38, 97, 109, 112, 59]) hI2 (by omega) (by first | rw [ba_append, ba_extract] | rw [ba_extract, List.append_nil]) (by simp; omega)).mono ?_
        rintro e W1 ⟨rfl, hw1⟩
        have hit3 := hw1.kept.iter HI.out (by omega)
        have hbw3 := hbw2.trans (hw1.below.mono hsz0)
        have hH3 := hw1.holds
        clear hw1 hnx hI2 hbw2 hsz2
        go_wp2_with fail
        go_roundw
        case rel => exact ⟨pos + 1, pos + 1, _, by go_num, hH3, hit3, hbw3, HS2.out, Nat.le_refl _, by omega⟩
        case measure =>
          simp only [World.iterPos, hit3, HIT.out]
          omega
      · have HE := Lib.hid he
        clear he
        subst hr
        obtain ⟨hn1, hs2⟩ := esc_step_some HA.out HG.out HE.out (by rw [← ba_size]; omega)
        have HS2 := Lib.hid hs2
        clear hs2
        subst hn1
        go_wp2_with fail
        refine (write_str (t := (s.data.toList.take pos).drop frm ++ [38, 108, 116, 59]) hI2 (by omega) (by first | rw [ba_append, ba_extract] | rw [ba_extract, List.append_nil]) (by simp; omega)).mono ?_
        rintro e W1 ⟨rfl, hw1⟩
        have hit3 := hw1.kept.iter HI.out (by omega)
        have hbw3 := hbw2.trans (hw1.below.mono hsz0)
        have hH3 := hw1.holds
        clear hw1 hnx hI2 hbw2 hsz2
        go_wp2_with fail
        go_roundw
        case rel => exact ⟨pos + 1, pos + 1, _, by go_num, hH3, hit3, hbw3, HS2.out, Nat.le_refl _, by omega⟩
        case measure =>
          simp only [World.iterPos, hit3, HIT.out]
          omega
      · have HE := Lib.hid he
        clear he
        subst hr
        obtain ⟨hn1, hs2⟩ := esc_step_some HA.out HG.out HE.out (by rw [← ba_size]; omega)
        have HS2 := Lib.hid hs2
        clear hs2
        subst hn1
        go_wp2_with fail
        refine (write_str (t := (s.data.toList.take pos).drop frm ++ [38, 103, 116, 59]) hI2 (by omega) (by first | rw [ba_append, ba_extract] | rw [ba_extract, List.append_nil]) (by simp; omega)).mono ?_
        rintro e W1 ⟨rfl, hw1⟩
        have hit3 := hw1.kept.iter HI.out (by omega)
        have hbw3 := hbw2.trans (hw1.below.mono hsz0)
        have hH3 := hw1.holds
        clear hw1 hnx hI2 hbw2 hsz2
        go_wp2_with fail
        go_roundw
        case rel => exact ⟨pos + 1, pos + 1, _, by go_num, hH3, hit3, hbw3, HS2.out, Nat.le_refl _, by omega⟩
        case measure =>
          simp only [World.iterPos, hit3, HIT.out]
          omega
      · have HE := Lib.hid he
        clear he
        subst hr
        obtain ⟨hn1, hs2⟩ := esc_step_some HA.out HG.out HE.out (by rw [← ba_size]; omega)
        have HS2 := Lib.hid hs2
        clear hs2
        subst hn1
        go_wp2_with fail
        refine (write_str (t := (s.data.toList.take pos).drop frm ++ [38, 113, 117, 111, 116, 59]) hI2 (by omega) (by first | rw [ba_append, ba_extract] | rw [ba_extract, List.append_nil]) (by simp; omega)).mono ?_
        rintro e W1 ⟨rfl, hw1⟩
        have hit3 := hw1.kept.iter HI.out (by omega)
        have hbw3 := hbw2.trans (hw1.below.mono hsz0)
        have hH3 := hw1.holds
        clear hw1 hnx hI2 hbw2 hsz2
        go_wp2_with fail
        go_roundw
        case rel => exact ⟨pos + 1, pos + 1, _, by go_num, hH3, hit3, hbw3, HS2.out, Nat.le_refl _, by omega⟩
        case measure =>
          simp only [World.iterPos, hit3, HIT.out]
          omega
      · have HE := Lib.hid he
        clear he
        subst hr
        obtain ⟨hn1, hs2⟩ := esc_step_some HA.out HG.out HE.out (by rw [← ba_size]; omega)
        have HS2 := Lib.hid hs2
        clear hs2
        subst hn1
        go_wp2_with fail
        refine (write_str (t := (s.data.toList.take pos).drop frm ++ []) hI2 (by omega) (by first | rw [ba_append, ba_extract] | rw [ba_extract, List.append_nil]) (by simp; omega)).mono ?_
        rintro e W1 ⟨rfl, hw1⟩
        have hit3 := hw1.kept.iter HI.out (by omega)
        have hbw3 := hbw2.trans (hw1.below.mono hsz0)
        have hH3 := hw1.holds
        clear hw1 hnx hI2 hbw2 hsz2
        go_wp2_with fail
        go_roundw
        case rel => exact ⟨pos + 1, pos + 1, _, by go_num, hH3, hit3, hbw3, HS2.out, Nat.le_refl _, by omega⟩
        case measure =>
          simp only [World.iterPos, hit3, HIT.out]
          omega
      · have HE := Lib.hid he
        clear he
        have HS2 := Lib.hid (esc_step_none HA.out HG.out HE.out hfp (by rw [← ba_size]; omega))
        go_wp2_with fail
        go_roundw
        case rel => exact ⟨pos + n, frm, acc, rfl, hI2, HI.out, hbw2, HS2.out, by omega, by omega⟩
        case measure =>
          simp only [World.iterPos, HI.out, HIT.out]
          omega
    · have hnx : ∀ ty, (Instr.next (.pointer (some ⟨w.heap.size + 1, 0, none⟩)) true ty).run Tryz.prog wr = _ := fun ty => Lib.run_next_end_at wr (w.heap.size + 1) s pos ty hit hp
      have hfs : frm ≤ s.size := by omega
      have hfi : (frm : Int) ≤ s.size := by omega
      have hle : w.heap.size ≤ wr.heap.size := by omega
      have hD : Holds w.heap.size acc wr.drew := hI
      go_wp2_with fail
      go_region_with (go_at_call 27; refine (read_str hD hle).mono ?_; rintro e W1 ⟨rfl, hw1⟩)
      go_wp2_with fail
      go_ret
      refine ⟨ret_string (ba_eq ?_), hbw.drew.trans (hw1.below.mono hsz0)⟩
      have hps' : pos = s.size := by omega
      have ht : s.data.toList.take pos = s.data.toList := by rw [hps', ba_size, List.take_length]
      have := HA.out
      rw [ht] at this
      rw [ba_append, ba_extract, ← this, ba_size, List.take_length]
end Go.Proofs.YtpabackkapgkpaaGreatDoor
