/- repair.Text: the walk. -/
import Derived.Test.YtnaehmnhiafbdaaDoorPlainText
import Derived.Test.YtnaehmnhiafbdaaDoorIter
import Derived.Outline
import Derived.WalkSpells
import Derived.WalkLawsBesides
import Derived.Lib.OthersKept
import Derived.BigCall
import Derived.Deep.QuietTactic
import Derived.BigQuiet
namespace Go.Proofs.YtnaehmnhiafbdaaDoor
open Go.RowKit Go.Lib

theorem text_end {L acc F : List UInt8} {pos : Nat} (hA : acc ++ textT (crAt L pos) (toks (L.drop pos)) = F) (hp : ¬ pos < L.length) : acc = F := by
  rw [List.drop_of_length_le (by omega), toks_nil] at hA
  simpa [textT] using hA
theorem cr_true {L : List UInt8} {pos : Nat} (h : crAt L pos = true) : 0 < pos ∧ L.getD (pos - 1) 0 = 13 := by
  unfold crAt at h
  simpa using h
theorem cr_false {L : List UInt8} {pos : Nat} (h : crAt L pos = false) : pos = 0 ∨ (0 < pos ∧ L.getD (pos - 1) 0 ≠ 13) := by
  unfold crAt at h
  by_cases hp : 0 < pos
  · right
    refine ⟨hp, ?_⟩
    simpa [hp] using h
  · left; omega
theorem ba_getD {s : ByteArray} {k : Nat} (h : k < s.size) : s.data.toList.getD k 0 = s[k] := by
  rw [List.getD_eq_getElem?_getD, List.getElem?_eq_getElem (by rw [← ba_size]; exact h)]
  simp [ByteArray.getElem_eq_getElem_data]

set_option maxHeartbeats 2000000 in
theorem text_from {w0 w : World} (s : ByteArray) (h : Below w0.heap.size w0 w) (hs : s.size ≤ 1000000) :
    Calls Tryd.prog 10 #[.string s] w fun e w' => e = .returned (.string ⟨(textF s.data.toList).toArray⟩) ∧ Below w0.heap.size w0 w' := by
  have hsz0 := h.size
  go_enter Tryd.func10, Tryd.ntmps10
  go_wp2_with fail
  go_loopw [4] (fun _ wr => ∃ (pos : Nat) (acc : List UInt8), Holds w.heap.size acc wr ∧ wr.heap[w.heap.size + 1]? = some (.stringIter s pos) ∧ Below w0.heap.size w0 wr ∧ Hid (acc ++ textT (crAt s.data.toList pos) (toks (s.data.toList.drop pos)) = textF s.data.toList) ∧ acc.length ≤ 4 * pos ∧ pos ≤ s.size) (fun _ wr => s.size - wr.iterPos (w.heap.size + 1))
  case atStart =>
    refine ⟨0, [], (Holds.fresh w).alloc _, ?_, (h.alloc hsz0 _).alloc (by simp; omega) _, rfl, by simp, Nat.zero_le _⟩
    have := World.iter_heap (w.alloc (.cells #[.pointer none, .slice none 0 0] 38)) s 0
    simpa using this
  case round =>
    obtain ⟨pos, acc, hI, hit, hbw, HA, hal, hps⟩ := hrel
    have hsz : w.heap.size + 1 < wr.heap.size := (Array.getElem?_eq_some_iff.1 hit).1
    by_cases hp : pos < s.size
    · obtain ⟨r, n, hn1, hpn, hrl, hnx, HI, hbw2, hsz2, HP1, HP2, HD, HNE, HG, HT, HTK⟩ := iter_step hit hp hbw (by omega)
      have hI2 := hI.iterAt hit (pos + n)
      have HGR := Lib.hid (text_grow HA.out HT.out HG.out hn1 (by rw [← ba_size]; omega))
      have hol := textOut_length (crAt s.data.toList pos) r
      have hlen : ∀ t : List UInt8, textOut (crAt s.data.toList pos) r = t → (acc ++ t).length ≤ 4 * (pos + n) := by
        intro t ht; rw [List.length_append, ← ht]; omega
      have HLN := Lib.hid hlen
      clear hit hI hlen
      rcases textOut_cases (crAt s.data.toList pos) r with ⟨hr, he⟩ | ⟨hr, he⟩ | ⟨hr, he⟩ | ⟨hr, hcr, he⟩ | ⟨hr, hcr, he⟩ | ⟨n1, n2, n3, n4, he⟩
      · have HE := Lib.hid he
        clear he
        subst hr
        go_wp2_with fail
        refine (write_str (t := badB) hI2 (by omega) rfl (by simp [badB]; omega)).mono ?_
        rintro e W1 ⟨rfl, hw1⟩
        have hit3 := Lib.hid (hw1.kept.iter HI.out (by omega))
        have hbw3 := hbw2.trans (hw1.below.mono hsz0)
        have hH3 := hw1.holds
        clear hw1 hnx hI2 hbw2 hsz2
        go_wp2_with fail
        go_roundw
        case rel => exact ⟨pos + n, _, hH3, hit3.out, hbw3, by have hq := HGR.out; rw [HE.out] at hq; exact hq, HLN.out _ HE.out, by omega⟩
        case measure => rw [HP1.out, iterPos_at hit3.out]; omega
      · have HE := Lib.hid he
        clear he
        subst hr
        go_wp2_with fail
        refine (write_str (t := badB) hI2 (by omega) rfl (by simp [badB]; omega)).mono ?_
        rintro e W1 ⟨rfl, hw1⟩
        have hit3 := Lib.hid (hw1.kept.iter HI.out (by omega))
        have hbw3 := hbw2.trans (hw1.below.mono hsz0)
        have hH3 := hw1.holds
        clear hw1 hnx hI2 hbw2 hsz2
        go_wp2_with fail
        go_roundw
        case rel => exact ⟨pos + n, _, hH3, hit3.out, hbw3, by have hq := HGR.out; rw [HE.out] at hq; exact hq, HLN.out _ HE.out, by omega⟩
        case measure => rw [HP1.out, iterPos_at hit3.out]; omega
      · have HE := Lib.hid he
        clear he
        subst hr
        go_wp2_with fail
        refine (write_byte (c := 10) hI2 (by omega) (by omega)).mono ?_
        rintro e W1 ⟨rfl, hw1⟩
        have hit3 := Lib.hid (hw1.kept.iter HI.out (by omega))
        have hbw3 := hbw2.trans (hw1.below.mono hsz0)
        have hH3 := hw1.holds
        clear hw1 hnx hI2 hbw2 hsz2
        go_wp2_with fail
        go_roundw
        case rel => exact ⟨pos + n, _, hH3, hit3.out, hbw3, by have hq := HGR.out; rw [HE.out] at hq; exact hq, HLN.out _ HE.out, by omega⟩
        case measure => rw [HP1.out, iterPos_at hit3.out]; omega
      · have HE := Lib.hid he
        clear he
        subst hr
        obtain ⟨hp0, hb⟩ := cr_true hcr
        rw [ba_getD (by omega)] at hb
        clear hcr
        obtain ⟨q, rfl⟩ : ∃ q, pos = q + 1 := ⟨pos - 1, by omega⟩
        have hb2 : s[q].toNat = 13 := by
          have := congrArg UInt8.toNat hb
          simpa using this
        clear hb
        go_wp2_with fail
        go_roundw
        case rel => exact ⟨q + 1 + n, _, hI2, HI.out, hbw2, by rw [← List.append_nil acc, ← HE.out]; exact HGR.out, by have := HLN.out _ HE.out; simpa using this, by omega⟩
        case measure => rw [HP1.out, HP2.out]; omega
      · have HE := Lib.hid he
        clear he
        subst hr
        rcases cr_false hcr with hz | ⟨hp0, hb⟩
        · subst hz
          clear hcr
          simp only [Nat.zero_add] at hnx HI hbw2 hsz2 hI2 HGR HLN HP2 hpn
          go_wp2_with fail
          refine (write_rune hI2 (by omega) (by omega) (by omega) (by omega)).mono ?_
          rintro e W1 ⟨rfl, hw1⟩
          have hit3 := Lib.hid (hw1.kept.iter HI.out (by omega))
          have hbw3 := hbw2.trans (hw1.below.mono hsz0)
          have hH3 := hw1.holds
          clear hw1 hnx hI2 hbw2 hsz2
          go_wp2_with fail
          go_roundw
          case rel => exact ⟨n, _, hH3, hit3.out, hbw3, by have hq := HGR.out; rw [HE.out] at hq; exact hq, HLN.out _ HE.out, by omega⟩
          case measure => rw [HP1.out, iterPos_at hit3.out]; omega
        · rw [ba_getD (by omega)] at hb
          clear hcr
          obtain ⟨q, rfl⟩ : ∃ q, pos = q + 1 := ⟨pos - 1, by omega⟩
          have hb2 : ((s[q].toNat : Int) == 13) = false := by
            have : s[q].toNat ≠ 13 := fun h => hb (UInt8.toNat_inj.1 (by simpa using h))
            simp; omega
          clear hb
          go_wp2_with fail
          refine (write_rune hI2 (by omega) (by omega) (by omega) (by omega)).mono ?_
          rintro e W1 ⟨rfl, hw1⟩
          have hit3 := Lib.hid (hw1.kept.iter HI.out (by omega))
          have hbw3 := hbw2.trans (hw1.below.mono hsz0)
          have hH3 := hw1.holds
          clear hw1 hnx hI2 hbw2 hsz2
          go_wp2_with fail
          go_roundw
          case rel => exact ⟨q + 1 + n, _, hH3, hit3.out, hbw3, by have hq := HGR.out; rw [HE.out] at hq; exact hq, HLN.out _ HE.out, by omega⟩
          case measure => rw [HP1.out, iterPos_at hit3.out]; omega
      · have HE := Lib.hid he
        clear he
        go_wp2_with fail
        refine (write_rune hI2 (by omega) (by omega) (by omega) (by omega)).mono ?_
        rintro e W1 ⟨rfl, hw1⟩
        have hit3 := Lib.hid (hw1.kept.iter HI.out (by omega))
        have hbw3 := hbw2.trans (hw1.below.mono hsz0)
        have hH3 := hw1.holds
        clear hw1 hnx hI2 hbw2 hsz2
        go_wp2_with fail
        go_roundw
        case rel => exact ⟨pos + n, _, hH3, hit3.out, hbw3, by have hq := HGR.out; rw [HE.out] at hq; exact hq, HLN.out _ HE.out, by omega⟩
        case measure => rw [HP1.out, iterPos_at hit3.out]; omega
    · have hnx := iter_end (wr := wr) hit hp
      have hle : w.heap.size ≤ wr.heap.size := by omega
      go_wp2_with fail
      refine (read_str hI hle).mono ?_
      rintro e W1 ⟨rfl, hw1⟩
      go_wp2_with fail
      go_ret
      exact ⟨ret_string (ba_eq (by rw [ba_mk, ba_mk]; exact text_end HA.out (by rw [← ba_size]; exact hp))), hbw.trans (hw1.below.mono hsz0)⟩
end Go.Proofs.YtnaehmnhiafbdaaDoor
