/- repair.Fold: the walk. -/
import Derived.Test.YtbblgnbafecdmaaGreatDoorPlainFold
import Derived.Test.YtbblgnbafecdmaaGreatDoorTextRef
namespace Go.Proofs.YtbblgnbafecdmaaGreatDoor
open Go.RowKit Go.Lib

/-- a builder at block b that holds acc, an iterator over s at block k, at place p; below w0's end the world is w0's -/
structure St (w0 : World) (b k : Nat) (s : ByteArray) (p : Nat) (acc : List UInt8) (w : World) : Prop where
  holds : Holds b acc w
  iter : w.heap[k]? = some (.stringIter s p)
  below : Below w0.heap.size w0 w

theorem St.lt {w0 : World} {b k : Nat} {s : ByteArray} {p : Nat} {acc : List UInt8} {w : World} (h : St w0 b k s p acc w) : k < w.heap.size := (Array.getElem?_eq_some_iff.1 h.iter).1
theorem St.on {w0 : World} {b k : Nat} {s : ByteArray} {p : Nat} {acc : List UInt8} {w w' : World} (h : St w0 b k s p acc w) (hb : Below w.heap.size w w') : St w0 b k s p acc w' :=
  ⟨h.holds.below hb, (hb.block k h.lt).trans h.iter, h.below.trans (hb.mono h.below.size)⟩
theorem St.alloc {w0 : World} {b k : Nat} {s : ByteArray} {p : Nat} {acc : List UInt8} {w : World} (h : St w0 b k s p acc w) (o : Obj) : St w0 b k s p acc (w.alloc o) :=
  h.on ((Below.refl _ _).alloc (Nat.le_refl _) _)
theorem St.wrote {w0 : World} {b k : Nat} {s : ByteArray} {p : Nat} {acc acc' : List UInt8} {w w' : World} (h : St w0 b k s p acc w) (hw : Wrote b acc' w w') (hb : w0.heap.size ≤ b) (hk : k ≠ b) : St w0 b k s p acc' w' :=
  ⟨hw.holds, hw.kept.iter h.iter (by omega), h.below.trans (hw.below.mono hb)⟩

set_option maxHeartbeats 4000000 in
theorem fold_from {w0 w : World} (s : ByteArray) (h : Below w0.heap.size w0 w) (hT : Tabs w0) (hs : s.size ≤ 1000000) :
    Calls Tryz.prog 76 #[.string s] w fun e w' => e = .returned (.string ⟨(foldF s.data.toList).toArray⟩) ∧ Below w0.heap.size w0 w' := by
  have hsz0 := h.size
  go_enter Tryz.func76, Tryz.ntmps76
  go_wp2_with fail
  go_loopw [4, 5] (fun vg _ wr => ∃ (pos : Nat) (acc : List UInt8) (g : Bool), vg = .bool g ∧ St w0 w.heap.size (w.heap.size + 1) s pos acc wr ∧ Hid (acc ++ foldT (anyB acc) g (toks (s.data.toList.drop pos)) = foldF s.data.toList) ∧ acc.length ≤ 3 * pos ∧ pos ≤ s.size) (fun _ _ wr => s.size - wr.iterPos (w.heap.size + 1))
  case atStart =>
    refine ⟨0, [], false, rfl, ⟨(Holds.fresh w).alloc _, ?_, (h.alloc hsz0 _).alloc (by simp; omega) _⟩, rfl, by simp, Nat.zero_le _⟩
    have := World.iter_heap (w.alloc (.cells #[.pointer none, .slice none 0 0] 114)) s 0
    simpa using this
  case round =>
    obtain ⟨pos, acc, g, rfl, hS, HA, hal, hps⟩ := hrel
    have hlt := hS.lt
    by_cases hp : pos < s.size
    · obtain ⟨r, n, hn1, hpn, hrl, hnx, HI, hbw2, hsz2, HP1, HP2, HD, HNE, HG, HT, HTK⟩ := iter_step hS.iter hp hS.below (by omega)
      have hS2 : St w0 w.heap.size (w.heap.size + 1) s (pos + n) acc (wr.iterAt (w.heap.size + 1) s (pos + n)) := ⟨hS.holds.iterAt hS.iter (pos + n), HI.out, hbw2⟩
      have hk : w.heap.size + 1 ≠ w.heap.size := by omega
      have cLen : ∀ {acc : List UInt8} {w' : World}, St w0 w.heap.size (w.heap.size + 1) s (pos + n) acc w' → Calls Tryz.prog 77 #[.pointer (some ⟨w.heap.size, 0, none⟩)] w' fun e w2 => e = .returned (.int .i64 acc.length) ∧ St w0 w.heap.size (w.heap.size + 1) s (pos + n) acc w2 := fun h => (read_len h.holds).mono fun e w2 ⟨he, hw⟩ => ⟨he, by rw [hw]; exact h⟩
      have cWb : ∀ {w' : World}, St w0 w.heap.size (w.heap.size + 1) s (pos + n) acc w' → Calls Tryz.prog 78 #[.pointer (some ⟨w.heap.size, 0, none⟩), .int .u8 32] w' fun e w2 => e = .returned .nilIface ∧ St w0 w.heap.size (w.heap.size + 1) s (pos + n) (acc ++ [32]) w2 := fun h => (write_byte (c := 32) h.holds (by have := h.lt; omega) (by omega)).mono fun e w2 ⟨he, hw⟩ => ⟨he, h.wrote hw hsz0 hk⟩
      have cDe : ∀ {acc : List UInt8} {w' : World}, St w0 w.heap.size (w.heap.size + 1) s (pos + n) acc w' → Calls Tryz.prog 87 #[.string (s.extract pos s.size)] w' fun e w2 => e = .returned (.tuple #[.int .i32 r, .int .i64 n]) ∧ St w0 w.heap.size (w.heap.size + 1) s (pos + n) acc w2 := fun h => (decode_from hp HD.out hT h.below).mono fun e w2 ⟨he, _, hb⟩ => ⟨he, h.on hb⟩
      have cAm : ∀ {acc : List UInt8} {w' : World}, St w0 w.heap.size (w.heap.size + 1) s (pos + n) acc w' → Calls Tryz.prog 88 #[.int .i32 r, .slice (some ⟨w'.heap.size, 0, none⟩) 3 3] (w'.alloc (.cells (greatSpans.flatMap fun p => [Value.int .i32 p.1, .int .i32 p.2]).toArray 131)) fun e w2 => e = .returned (.bool (greatI r)) ∧ St w0 w.heap.size (w.heap.size + 1) s (pos + n) acc w2 := fun {acc} {w'} h => (among_any r greatSpans w'.heap.size 0 3 _ (spansAt_alloc w' greatSpans _) (by simp) (by decide) (by decide)).mono fun e w2 ⟨he, hb⟩ => ⟨he, (h.alloc _).on hb⟩
      have hfl := foldTok_length HG.out
      have htl : ((s.data.toList.drop pos).take n).length = n := by rw [List.length_take, List.length_drop, ← ba_size]; omega
      dsimp only at hfl
      rw [htl] at hfl
      have HFL := Lib.hid hfl
      have cWr : ∀ {acc' : List UInt8} {w' : World}, acc'.length ≤ 3000001 → St w0 w.heap.size (w.heap.size + 1) s (pos + n) acc' w' → greatI r = true → Calls Tryz.prog 79 #[.pointer (some ⟨w.heap.size, 0, none⟩), .int .i32 ((r : Int) + 32)] w' fun e w2 => e = .returned (.tuple #[.int .i64 (Lib.runeCells ((r : Int) + 32)).length, .nilIface]) ∧ St w0 w.heap.size (w.heap.size + 1) s (pos + n) (acc' ++ foldTok (r, (s.data.toList.drop pos).take n)) w2 := fun {acc'} {w'} hl h hgr => (write_rune h.holds (by have := h.lt; omega) (by omega) (by omega) (by omega)).mono fun e w2 ⟨he, hw⟩ => ⟨he, by have := h.wrote hw hsz0 hk; unfold foldTok; rw [if_pos hgr]; exact this⟩
      have cWs : ∀ {acc' : List UInt8} {w' : World}, acc'.length ≤ 3000001 → St w0 w.heap.size (w.heap.size + 1) s (pos + n) acc' w' → greatI r = false → Calls Tryz.prog 89 #[.pointer (some ⟨w.heap.size, 0, none⟩), .string (s.extract pos (pos + n))] w' fun e w2 => e = .returned (.tuple #[.int .i64 (s.extract pos (pos + n)).size, .nilIface]) ∧ St w0 w.heap.size (w.heap.size + 1) s (pos + n) (acc' ++ foldTok (r, (s.data.toList.drop pos).take n)) w2 := fun {acc'} {w'} hl h hgr => (write_str h.holds (by have := h.lt; omega) (ext_tok s pos n) (by omega)).mono fun e w2 ⟨he, hw⟩ => ⟨he, by have := h.wrote hw hsz0 hk; unfold foldTok; rw [if_neg (by simp [hgr])]; exact this⟩
      clear htl hfl
      cases hsp : spaceI r with
      | true =>
        have HGR := Lib.hid (fold_space HA.out HT.out hsp)
        have cSp : ∀ {w' : World}, St w0 w.heap.size (w.heap.size + 1) s (pos + n) acc w' → Calls Tryz.prog 86 #[.int .i32 r] w' fun e w2 => e = .returned (.bool true) ∧ St w0 w.heap.size (w.heap.size + 1) s (pos + n) acc w2 := fun h => (space_any r _).mono fun e w2 ⟨he, hb⟩ => ⟨by rw [he]; exact ret_bool hsp, h.on hb⟩
        clear hsp hS
        go_wp2_with fail
        refine (cSp hS2).mono ?_
        rintro e w1 ⟨rfl, hS3⟩
        go_wp2_with fail
        go_roundw
        case rel => exact ⟨pos + n, acc, true, rfl, hS3, HGR.out, by omega, by omega⟩
        case measure => rw [HP1.out, iterPos_at hS3.iter]; omega
      | false =>
        have cSp : ∀ {w' : World}, St w0 w.heap.size (w.heap.size + 1) s (pos + n) acc w' → Calls Tryz.prog 86 #[.int .i32 r] w' fun e w2 => e = .returned (.bool false) ∧ St w0 w.heap.size (w.heap.size + 1) s (pos + n) acc w2 := fun h => (space_any r _).mono fun e w2 ⟨he, hb⟩ => ⟨by rw [he]; exact ret_bool hsp, h.on hb⟩
        by_cases hga : g = true ∧ anyB acc = true
        · have HGR := Lib.hid (fold_gapped HA.out HT.out hsp hga)
          obtain ⟨rfl, ha⟩ := hga
          have ha1 : 0 < (acc.length : Int) := by unfold anyB at ha; simp only [decide_eq_true_eq] at ha; omega
          clear hsp hS ha
          cases hgr : greatI r with
          | true =>
            go_wp2_with fail
            refine (cSp hS2).mono ?_
            rintro e w1 ⟨rfl, hS3⟩
            go_wp2_with fail
            refine (cLen hS3).mono ?_
            rintro e w2 ⟨rfl, hS4⟩
            go_wp2_with fail
            refine (cWb hS4).mono ?_
            rintro e w3 ⟨rfl, hS5⟩
            go_wp2_with fail
            refine (cDe hS5).mono ?_
            rintro e w4 ⟨rfl, hS6⟩
            go_wp2_with fail
            refine (cAm hS6).mono ?_
            rintro e w5 ⟨rfl, hS7⟩
            go_wp2_with fail
            refine (cWr (by rw [List.length_append]; simp; omega) hS7 hgr).mono ?_
            rintro e w6 ⟨rfl, hS8⟩
            go_wp2_with fail
            go_roundw
            case rel => exact ⟨pos + n, _, false, rfl, hS8, by rw [anyB_app HFL.out.1]; exact HGR.out, by have := HFL.out; simp only [List.length_append, List.length_singleton]; omega, by omega⟩
            case measure => rw [HP1.out, iterPos_at hS8.iter]; omega
          | false =>
            go_wp2_with fail
            refine (cSp hS2).mono ?_
            rintro e w1 ⟨rfl, hS3⟩
            go_wp2_with fail
            refine (cLen hS3).mono ?_
            rintro e w2 ⟨rfl, hS4⟩
            go_wp2_with fail
            refine (cWb hS4).mono ?_
            rintro e w3 ⟨rfl, hS5⟩
            go_wp2_with fail
            refine (cDe hS5).mono ?_
            rintro e w4 ⟨rfl, hS6⟩
            go_wp2_with fail
            refine (cAm hS6).mono ?_
            rintro e w5 ⟨rfl, hS7⟩
            go_wp2_with fail
            refine (cWs (by rw [List.length_append]; simp; omega) hS7 hgr).mono ?_
            rintro e w6 ⟨rfl, hS8⟩
            go_wp2_with fail
            go_roundw
            case rel => exact ⟨pos + n, _, false, rfl, hS8, by rw [anyB_app HFL.out.1]; exact HGR.out, by have := HFL.out; simp only [List.length_append, List.length_singleton]; omega, by omega⟩
            case measure => rw [HP1.out, iterPos_at hS8.iter]; omega
        · have HGR := Lib.hid (fold_plain HA.out HT.out hsp hga)
          cases g with
          | false =>
            clear hsp hS hga
            cases hgr : greatI r with
            | true =>
              go_wp2_with fail
              refine (cSp hS2).mono ?_
              rintro e w1 ⟨rfl, hS3⟩
              go_wp2_with fail
              refine (cDe hS3).mono ?_
              rintro e w2 ⟨rfl, hS4⟩
              go_wp2_with fail
              refine (cAm hS4).mono ?_
              rintro e w3 ⟨rfl, hS5⟩
              go_wp2_with fail
              refine (cWr (by omega) hS5 hgr).mono ?_
              rintro e w4 ⟨rfl, hS6⟩
              go_wp2_with fail
              go_roundw
              case rel => exact ⟨pos + n, _, false, rfl, hS6, by rw [anyB_app HFL.out.1]; exact HGR.out, by have := HFL.out; rw [List.length_append]; omega, by omega⟩
              case measure => rw [HP1.out, iterPos_at hS6.iter]; omega
            | false =>
              go_wp2_with fail
              refine (cSp hS2).mono ?_
              rintro e w1 ⟨rfl, hS3⟩
              go_wp2_with fail
              refine (cDe hS3).mono ?_
              rintro e w2 ⟨rfl, hS4⟩
              go_wp2_with fail
              refine (cAm hS4).mono ?_
              rintro e w3 ⟨rfl, hS5⟩
              go_wp2_with fail
              refine (cWs (by omega) hS5 hgr).mono ?_
              rintro e w4 ⟨rfl, hS6⟩
              go_wp2_with fail
              go_roundw
              case rel => exact ⟨pos + n, _, false, rfl, hS6, by rw [anyB_app HFL.out.1]; exact HGR.out, by have := HFL.out; rw [List.length_append]; omega, by omega⟩
              case measure => rw [HP1.out, iterPos_at hS6.iter]; omega
          | true =>
            have ha1 : (acc.length : Int) ≤ 0 := by
              have : ¬ (0 < acc.length) := by
                intro h; apply hga; exact ⟨rfl, by unfold anyB; exact decide_eq_true h⟩
              omega
            clear hsp hS hga
            cases hgr : greatI r with
            | true =>
              go_wp2_with fail
              refine (cSp hS2).mono ?_
              rintro e w1 ⟨rfl, hS3⟩
              go_wp2_with fail
              refine (cLen hS3).mono ?_
              rintro e w2 ⟨rfl, hS4⟩
              go_wp2_with fail
              refine (cDe hS4).mono ?_
              rintro e w3 ⟨rfl, hS5⟩
              go_wp2_with fail
              refine (cAm hS5).mono ?_
              rintro e w4 ⟨rfl, hS6⟩
              go_wp2_with fail
              refine (cWr (by omega) hS6 hgr).mono ?_
              rintro e w5 ⟨rfl, hS7⟩
              go_wp2_with fail
              go_roundw
              case rel => exact ⟨pos + n, _, false, rfl, hS7, by rw [anyB_app HFL.out.1]; exact HGR.out, by have := HFL.out; rw [List.length_append]; omega, by omega⟩
              case measure => rw [HP1.out, iterPos_at hS7.iter]; omega
            | false =>
              go_wp2_with fail
              refine (cSp hS2).mono ?_
              rintro e w1 ⟨rfl, hS3⟩
              go_wp2_with fail
              refine (cLen hS3).mono ?_
              rintro e w2 ⟨rfl, hS4⟩
              go_wp2_with fail
              refine (cDe hS4).mono ?_
              rintro e w3 ⟨rfl, hS5⟩
              go_wp2_with fail
              refine (cAm hS5).mono ?_
              rintro e w4 ⟨rfl, hS6⟩
              go_wp2_with fail
              refine (cWs (by omega) hS6 hgr).mono ?_
              rintro e w5 ⟨rfl, hS7⟩
              go_wp2_with fail
              go_roundw
              case rel => exact ⟨pos + n, _, false, rfl, hS7, by rw [anyB_app HFL.out.1]; exact HGR.out, by have := HFL.out; rw [List.length_append]; omega, by omega⟩
              case measure => rw [HP1.out, iterPos_at hS7.iter]; omega
    · have hnx := iter_end (wr := wr) hS.iter hp
      have hle : w.heap.size ≤ wr.heap.size := by omega
      go_wp2_with fail
      refine (read_str hS.holds hle).mono ?_
      rintro e W1 ⟨rfl, hw1⟩
      go_wp2_with fail
      go_ret
      refine ⟨ret_string (ba_eq ?_), hS.below.trans (hw1.below.mono hsz0)⟩
      have := HA.out
      rw [List.drop_of_length_le (by rw [← ba_size]; omega), toks_nil] at this
      rw [ba_mk, ba_mk, ← this]; simp [foldT]
end Go.Proofs.YtbblgnbafecdmaaGreatDoor
