/- target.Safe: the walk. NOT FINISHED: the second loop stands open. -/
import Derived.Test.YtpabackkapgkpaaGreatDoorEnc
namespace Go.Proofs.YtpabackkapgkpaaGreatDoor
open Go.RowKit Go.Lib

/-- what Safe keeps of a rune -/
def lowR (r : Nat) : List UInt8 := if 65 ≤ r ∧ r ≤ 90 then encodeRune ((r : Int) + 32) else if 32 < r ∧ r ≠ 127 then encodeRune r else []
def lowL (l : List UInt8) : List UInt8 := (toks l).flatMap (fun t => lowR t.1)
def bads : List (List UInt8) := [[106, 97, 118, 97, 115, 99, 114, 105, 112, 116, 58], [118, 98, 115, 99, 114, 105, 112, 116, 58], [102, 105, 108, 101, 58], [100, 97, 116, 97, 58]]
def badL (l : List UInt8) : Bool := bads.any (fun p => hasPrefix l p)
def safeB (l : List UInt8) : Bool := !badL (lowL l)

theorem safe_no {l acc p : List UInt8} (hL : acc = lowL l) (h : hasPrefix acc p = true) (hp : p ∈ bads) : false = safeB l := by
  have : badL (lowL l) = true := List.any_eq_true.2 ⟨p, hp, by rw [← hL]; exact h⟩
  unfold safeB; rw [this]; rfl
theorem safe_yes {l acc : List UInt8} (hL : acc = lowL l) (h : (bads.take 4).any (fun p => hasPrefix acc p) = false) : true = safeB l := by
  have : badL (lowL l) = false := by rw [← hL]; exact h
  unfold safeB; rw [this]; rfl
theorem bad_next {acc p : List UInt8} {k : Nat} (h : (bads.take k).any (fun p => hasPrefix acc p) = false) (hk : bads[k]? = some p) (hp : hasPrefix acc p = false) : (bads.take (k + 1)).any (fun p => hasPrefix acc p) = false := by
  rw [List.take_add_one, hk, List.any_append, h]; simp [hp]
theorem alloc_new (w : World) (o : Obj) : (w.alloc o).heap[w.heap.size]? = some o := by
  have : (w.alloc o).heap = w.heap.push o := rfl
  rw [this]; simp
theorem lowL_nil : lowL [] = [] := rfl
theorem lowL_step (l : List UInt8) (hne : l ≠ []) : lowL l = lowR (decodeL l).1 ++ lowL (l.drop (decodeL l).2) := by
  unfold lowL; rw [toks_step l hne]; rfl
theorem enc_len (x : Int) : (encodeRune x).length ≤ 4 := by
  have := Lib.runeCells_le x
  rw [← byteCells_encodeRune, byteCells_length] at this; exact this.2
theorem lowR_length (r : Nat) : (lowR r).length ≤ 4 := by
  unfold lowR
  split
  · exact enc_len _
  · split
    · exact enc_len _
    · simp
theorem lowR_cases (r : Nat) : (65 ≤ (r : Int) ∧ (r : Int) ≤ 90 ∧ lowR r = encodeRune ((r : Int) + 32)) ∨ (((r : Int) < 65 ∨ 90 < (r : Int)) ∧ 32 < (r : Int) ∧ ((r : Int) == 127) = false ∧ lowR r = encodeRune r) ∨ ((r : Int) ≤ 32 ∧ lowR r = []) ∨ (r = 127 ∧ lowR r = []) := by
  unfold lowR
  by_cases h1 : 65 ≤ r ∧ r ≤ 90
  · exact .inl ⟨by omega, by omega, by rw [if_pos h1]⟩
  · by_cases h2 : 32 < r ∧ r ≠ 127
    · exact .inr (.inl ⟨by omega, by omega, by simp; omega, by rw [if_neg h1, if_pos h2]⟩)
    · by_cases h3 : r = 127
      · exact .inr (.inr (.inr ⟨h3, by rw [if_neg h1, if_neg h2]⟩))
      · exact .inr (.inr (.inl ⟨by omega, by rw [if_neg h1, if_neg h2]⟩))
theorem low_grow {acc L : List UInt8} {pos : Nat} {d : Nat × Nat} (hA : acc ++ lowL (L.drop pos) = lowL L) (hne : L.drop pos ≠ []) (hd : decodeL (L.drop pos) = d) : (acc ++ lowR d.1) ++ lowL (L.drop (pos + d.2)) = lowL L := by
  rw [lowL_step _ hne, hd] at hA
  rw [List.append_assoc, ← List.drop_drop]; exact hA

theorem hp_in (s p : ByteArray) (w : World) :
    Calls Tryz.prog 50 #[.string s, .string p] w fun e w' => e = .returned (.bool (Lib.hasPrefix s.data.toList p.data.toList)) ∧ w' = w := by
  rw [← Lib.hasPrefix_of_take, ← Lib.size_eq, ← Lib.size_eq]
  go_enter Tryz.func50, Tryz.ntmps50
  go_wp2
  · rename_i h
    go_ret
    refine ⟨?_, rfl⟩
    show Ending.returned (Value.bool ((s.extract 0 p.size).toList == p.toList)) = _
    rw [Lib.extract_toList, Lib.toList_data]
    simp [h]
  · rename_i h
    go_ret
    refine ⟨?_, rfl⟩
    show Ending.returned (Value.bool false) = _
    simp [h]
theorem hp_any (s p : ByteArray) (w : World) :
    Calls Tryz.prog 30 #[.string s, .string p] w fun e w' => e = .returned (.bool (Lib.hasPrefix s.data.toList p.data.toList)) ∧ w' = w := by
  go_enter Tryz.func30, Tryz.ntmps30
  go_wp2_with (go_at_call 50; refine (hp_in _ _ _).mono ?_; rintro e w' ⟨rfl, hw⟩; rw [hw])
  go_ret
  exact ⟨rfl, rfl⟩

set_option maxHeartbeats 2000000 in
theorem safe_from {w0 w : World} (s : ByteArray) (h : Below w0.heap.size w0 w) (hs : s.size ≤ 1000000) :
    Calls Tryz.prog 44 #[.string s] w fun e w' => e = .returned (.bool (safeB s.data.toList)) ∧ Below w0.heap.size w0 w' := by
  have hsz0 := h.size
  go_enter Tryz.func44, Tryz.ntmps44
  go_wp2_with fail
  go_loopw [5] (fun _ wr => ∃ (pos : Nat) (acc : List UInt8), Holds w.heap.size acc wr ∧ wr.heap[w.heap.size + 1]? = some (.stringIter s pos) ∧ Below w0.heap.size w0 wr ∧ acc ++ lowL (s.data.toList.drop pos) = lowL s.data.toList ∧ acc.length ≤ 4 * pos ∧ pos ≤ s.size) (fun _ wr => s.size - wr.iterPos (w.heap.size + 1))
  case atStart =>
    refine ⟨0, [], (Holds.fresh w).alloc _, ?_, (h.alloc hsz0 _).alloc (by simp; omega) _, by simp, by simp, Nat.zero_le _⟩
    have := World.iter_heap (w.alloc (.cells #[.pointer none, .slice none 0 0] 72)) s 0
    simpa using this
  case round =>
    obtain ⟨pos, acc, hI, hit, hbw, hacc, hal, hps⟩ := hrel
    have hsz : w.heap.size + 1 < wr.heap.size := (Array.getElem?_eq_some_iff.1 hit).1
    have HA := Lib.hid hacc
    clear hacc
    by_cases hp : pos < s.size
    · have hnx : ∀ ty, (Instr.next (.pointer (some ⟨w.heap.size + 1, 0, none⟩)) true ty).run Tryz.prog wr = _ := fun ty => Lib.run_next_any_at wr (w.heap.size + 1) s pos ty hit hp
      have hd1 := decode_le s pos
      have hI2 := hI.iterAt hit (pos + (Utf8.decode s pos).2)
      have hit2 := Lib.iterAt_heap wr (w.heap.size + 1) s pos (pos + (Utf8.decode s pos).2) hit
      have hbw2 := Lib.below_iterAt hbw (k := w.heap.size + 1) (by omega) s (pos + (Utf8.decode s pos).2)
      have hsz2 : w.heap.size + 1 < (wr.iterAt (w.heap.size + 1) s (pos + (Utf8.decode s pos).2)).heap.size := by rw [Lib.iterAt_size]; omega
      have HI := Lib.hid hit2
      have HIT := Lib.hid hit
      have hwd := decodeL_width (s.data.toList.drop pos)
      have hne : s.data.toList.drop pos ≠ [] := by
        intro hn
        have := congrArg List.length hn
        rw [List.length_drop, ← ba_size] at this
        simp at this; omega
      have hdl := decodeL_le _ hne
      rw [List.length_drop, ← ba_size] at hdl
      have hrl : (Utf8.decode s pos).1 ≤ 1114111 := rune_le s pos
      rw [decodeL_drop] at hwd hdl
      have HGR := Lib.hid (low_grow HA.out hne (decodeL_drop s pos))
      clear hit2 hit hI hne
      generalize Utf8.decode s pos = d at *
      obtain ⟨r, n⟩ := d
      simp only at *
      rcases lowR_cases r with ⟨h1, h2, he⟩ | ⟨h1, h2, h3, he⟩ | ⟨h1, he⟩ | ⟨h1, he⟩
      · have HE := Lib.hid he
        clear he
        have hln := lowR_length r
        go_wp2_with fail
        refine (write_rune hI2 (by omega) (by omega) (by omega) (by omega)).mono ?_
        rintro e W1 ⟨rfl, hw1⟩
        have hit3 := hw1.kept.iter HI.out (by omega)
        have hbw3 := hbw2.trans (hw1.below.mono hsz0)
        have hH3 := hw1.holds
        rw [← HE.out] at hH3
        clear hw1 hnx hI2 hbw2 hsz2
        go_wp2_with fail
        go_roundw
        case rel => exact ⟨pos + n, _, hH3, hit3, hbw3, HGR.out, by rw [List.length_append]; omega, by omega⟩
        case measure =>
          simp only [World.iterPos, hit3, HIT.out]
          omega
      · rcases h1 with h1 | h1
        · have HE := Lib.hid he
          clear he
          have hln := lowR_length r
          go_wp2_with fail
          refine (write_rune hI2 (by omega) (by omega) (by omega) (by omega)).mono ?_
          rintro e W1 ⟨rfl, hw1⟩
          have hit3 := hw1.kept.iter HI.out (by omega)
          have hbw3 := hbw2.trans (hw1.below.mono hsz0)
          have hH3 := hw1.holds
          rw [← HE.out] at hH3
          clear hw1 hnx hI2 hbw2 hsz2
          go_wp2_with fail
          go_roundw
          case rel => exact ⟨pos + n, _, hH3, hit3, hbw3, HGR.out, by rw [List.length_append]; omega, by omega⟩
          case measure =>
            simp only [World.iterPos, hit3, HIT.out]
            omega
        · have HE := Lib.hid he
          clear he
          have hln := lowR_length r
          go_wp2_with fail
          refine (write_rune hI2 (by omega) (by omega) (by omega) (by omega)).mono ?_
          rintro e W1 ⟨rfl, hw1⟩
          have hit3 := hw1.kept.iter HI.out (by omega)
          have hbw3 := hbw2.trans (hw1.below.mono hsz0)
          have hH3 := hw1.holds
          rw [← HE.out] at hH3
          clear hw1 hnx hI2 hbw2 hsz2
          go_wp2_with fail
          go_roundw
          case rel => exact ⟨pos + n, _, hH3, hit3, hbw3, HGR.out, by rw [List.length_append]; omega, by omega⟩
          case measure =>
            simp only [World.iterPos, hit3, HIT.out]
            omega
      · have HE := Lib.hid he
        clear he
        have HGQ : (acc ++ []) ++ lowL (s.data.toList.drop (pos + n)) = lowL s.data.toList := by rw [← HE.out]; exact HGR.out
        rw [List.append_nil] at HGQ
        have HGS := Lib.hid HGQ
        clear HGQ
        go_wp2_with fail
        go_roundw
        case rel => exact ⟨pos + n, acc, hI2, HI.out, hbw2, HGS.out, by omega, by omega⟩
        case measure =>
          simp only [World.iterPos, HI.out, HIT.out]
          omega
      · have HE := Lib.hid he
        clear he
        subst h1
        have HGQ : (acc ++ []) ++ lowL (s.data.toList.drop (pos + n)) = lowL s.data.toList := by rw [← HE.out]; exact HGR.out
        rw [List.append_nil] at HGQ
        have HGS := Lib.hid HGQ
        clear HGQ
        go_wp2_with fail
        go_roundw
        case rel => exact ⟨pos + n, acc, hI2, HI.out, hbw2, HGS.out, by omega, by omega⟩
        case measure =>
          simp only [World.iterPos, HI.out, HIT.out]
          omega
    · have hnx : ∀ ty, (Instr.next (.pointer (some ⟨w.heap.size + 1, 0, none⟩)) true ty).run Tryz.prog wr = _ := fun ty => Lib.run_next_end_at wr (w.heap.size + 1) s pos ty hit hp
      have hps' : pos = s.size := by omega
      have hL : acc = lowL s.data.toList := by
        have := HA.out
        rw [hps', ba_size, List.drop_length, lowL_nil, List.append_nil] at this
        exact this
      go_wp2_with fail
      rename World => wq
      have HL := Lib.hid hL
      clear hL
      go_loopw [31] (fun vi w2 => ∃ k : Nat, k ≤ 4 ∧ vi = .int .i64 k ∧ Holds w.heap.size acc w2 ∧ Below w0.heap.size w0 w2 ∧ wq.heap.size < w2.heap.size ∧ w2.heap[wq.heap.size]? = some (Obj.cells #[Value.string ⟨#[106, 97, 118, 97, 115, 99, 114, 105, 112, 116, 58]⟩, Value.string ⟨#[118, 98, 115, 99, 114, 105, 112, 116, 58]⟩, Value.string ⟨#[102, 105, 108, 101, 58]⟩, Value.string ⟨#[100, 97, 116, 97, 58]⟩] 9) ∧ (bads.take k).any (fun p => hasPrefix acc p) = false) (fun vi _ => 4 - (RowKit.intOf vi).toNat)
      case atStart => exact ⟨0, by omega, rfl, hI.alloc _, hbw.alloc (by omega) _, by simp, alloc_new _ _, rfl⟩
      case round =>
        obtain ⟨k, hk, rfl, hH, hB, hsz2, hc, hno⟩ := hrel
        have HNO := Lib.hid hno
        clear hno
        obtain rfl | rfl | rfl | rfl | rfl : k = 0 ∨ k = 1 ∨ k = 2 ∨ k = 3 ∨ k = 4 := by omega
        · have hck : wr.cell? ⟨wq.heap.size, 0, none⟩ = some (Value.string ⟨#[106, 97, 118, 97, 115, 99, 114, 105, 112, 116, 58]⟩) := by simp [World.cell?, hc]
          have HC := Lib.hid hc
          clear hc
          cases hpf : hasPrefix acc [106, 97, 118, 97, 115, 99, 114, 105, 112, 116, 58] with
          | true =>
            go_wp2_with (first | (go_at_call 27; refine (read_str hH (by omega)).mono ?_; rintro e W1 ⟨rfl, hw1⟩) | (go_at_call 30; refine (hp_any _ _ _).mono ?_; rintro e w3 ⟨rfl, hww⟩; subst hww))
            go_ret
            exact ⟨ret_bool (safe_no HL.out hpf (by decide)), hB.trans (hw1.below.mono hsz0)⟩
          | false =>
            go_wp2_with (first | (go_at_call 27; refine (read_str hH (by omega)).mono ?_; rintro e W1 ⟨rfl, hw1⟩) | (go_at_call 30; refine (hp_any _ _ _).mono ?_; rintro e w3 ⟨rfl, hww⟩; subst hww))
            exact ⟨⟨1, by omega, by go_num, hw1.holds, hB.trans (hw1.below.mono hsz0), by have := hw1.below.size; omega, hw1.kept _ _ HC.out (by simp; omega) (by intro c fz e; cases e), bad_next HNO.out rfl hpf⟩, by decide⟩
        · have hck : wr.cell? ⟨wq.heap.size, 1, none⟩ = some (Value.string ⟨#[118, 98, 115, 99, 114, 105, 112, 116, 58]⟩) := by simp [World.cell?, hc]
          have HC := Lib.hid hc
          clear hc
          cases hpf : hasPrefix acc [118, 98, 115, 99, 114, 105, 112, 116, 58] with
          | true =>
            go_wp2_with (first | (go_at_call 27; refine (read_str hH (by omega)).mono ?_; rintro e W1 ⟨rfl, hw1⟩) | (go_at_call 30; refine (hp_any _ _ _).mono ?_; rintro e w3 ⟨rfl, hww⟩; subst hww))
            go_ret
            exact ⟨ret_bool (safe_no HL.out hpf (by decide)), hB.trans (hw1.below.mono hsz0)⟩
          | false =>
            go_wp2_with (first | (go_at_call 27; refine (read_str hH (by omega)).mono ?_; rintro e W1 ⟨rfl, hw1⟩) | (go_at_call 30; refine (hp_any _ _ _).mono ?_; rintro e w3 ⟨rfl, hww⟩; subst hww))
            exact ⟨⟨2, by omega, by go_num, hw1.holds, hB.trans (hw1.below.mono hsz0), by have := hw1.below.size; omega, hw1.kept _ _ HC.out (by simp; omega) (by intro c fz e; cases e), bad_next HNO.out rfl hpf⟩, by decide⟩
        · have hck : wr.cell? ⟨wq.heap.size, 2, none⟩ = some (Value.string ⟨#[102, 105, 108, 101, 58]⟩) := by simp [World.cell?, hc]
          have HC := Lib.hid hc
          clear hc
          cases hpf : hasPrefix acc [102, 105, 108, 101, 58] with
          | true =>
            go_wp2_with (first | (go_at_call 27; refine (read_str hH (by omega)).mono ?_; rintro e W1 ⟨rfl, hw1⟩) | (go_at_call 30; refine (hp_any _ _ _).mono ?_; rintro e w3 ⟨rfl, hww⟩; subst hww))
            go_ret
            exact ⟨ret_bool (safe_no HL.out hpf (by decide)), hB.trans (hw1.below.mono hsz0)⟩
          | false =>
            go_wp2_with (first | (go_at_call 27; refine (read_str hH (by omega)).mono ?_; rintro e W1 ⟨rfl, hw1⟩) | (go_at_call 30; refine (hp_any _ _ _).mono ?_; rintro e w3 ⟨rfl, hww⟩; subst hww))
            exact ⟨⟨3, by omega, by go_num, hw1.holds, hB.trans (hw1.below.mono hsz0), by have := hw1.below.size; omega, hw1.kept _ _ HC.out (by simp; omega) (by intro c fz e; cases e), bad_next HNO.out rfl hpf⟩, by decide⟩
        · have hck : wr.cell? ⟨wq.heap.size, 3, none⟩ = some (Value.string ⟨#[100, 97, 116, 97, 58]⟩) := by simp [World.cell?, hc]
          have HC := Lib.hid hc
          clear hc
          cases hpf : hasPrefix acc [100, 97, 116, 97, 58] with
          | true =>
            go_wp2_with (first | (go_at_call 27; refine (read_str hH (by omega)).mono ?_; rintro e W1 ⟨rfl, hw1⟩) | (go_at_call 30; refine (hp_any _ _ _).mono ?_; rintro e w3 ⟨rfl, hww⟩; subst hww))
            go_ret
            exact ⟨ret_bool (safe_no HL.out hpf (by decide)), hB.trans (hw1.below.mono hsz0)⟩
          | false =>
            go_wp2_with (first | (go_at_call 27; refine (read_str hH (by omega)).mono ?_; rintro e W1 ⟨rfl, hw1⟩) | (go_at_call 30; refine (hp_any _ _ _).mono ?_; rintro e w3 ⟨rfl, hww⟩; subst hww))
            exact ⟨⟨4, by omega, by go_num, hw1.holds, hB.trans (hw1.below.mono hsz0), by have := hw1.below.size; omega, hw1.kept _ _ HC.out (by simp; omega) (by intro c fz e; cases e), bad_next HNO.out rfl hpf⟩, by decide⟩
        · go_wp2_with fail
          go_ret
          exact ⟨ret_bool (safe_yes HL.out HNO.out), hB⟩
end Go.Proofs.YtpabackkapgkpaaGreatDoor
