/- The tables; one rune met by the decoder. -/
import Derived.Test.YtbblgnbafecdmaaGreatDoorPlain
import Derived.Test.YtbblgnbafecdmaaGreatDoorProg
import Derived.WalkKit
import Derived.Lib.Hide
import Derived.Lib.OthersKept
import Derived.Lib.TrimUEq
import Derived.Test.YtbblgnbafecdmaaGreatDoorPlainText
import Derived.Lib.AppendIntMem
namespace Go.Proofs.YtbblgnbafecdmaaGreatDoor
open Go.RowKit Go.Lib

theorem it_ne {s : ByteArray} {pos : Nat} (hp : pos < s.size) : s.data.toList.drop pos ≠ [] := by
  intro hn
  have := congrArg List.length hn
  have hz : s.size = s.data.toList.length := by cases s; rfl
  rw [List.length_drop, ← hz] at this
  simp at this; omega

/-- the step: the rune r, its n bytes -/
theorem iter_step {B : Nat} {w0 wr : World} {k : Nat} {s : ByteArray} {pos : Nat} (hit : wr.heap[k]? = some (.stringIter s pos)) (hp : pos < s.size) (hB : Below B w0 wr) (hk : B ≤ k) :
    ∃ r n : Nat, 1 ≤ n ∧ pos + n ≤ s.size ∧ r ≤ 1114111 ∧
      (∀ ty, (Instr.next (.pointer (some ⟨k, 0, none⟩)) true ty).run Tryz.prog wr = .ok (.tuple #[.bool true, .int .i64 pos, .int .i32 (r : Int)]) (wr.iterAt k s (pos + n))) ∧
      Hid ((wr.iterAt k s (pos + n)).heap[k]? = some (.stringIter s (pos + n))) ∧
      Below B w0 (wr.iterAt k s (pos + n)) ∧ k < (wr.iterAt k s (pos + n)).heap.size ∧
      Hid (wr.iterPos k = pos) ∧ Hid ((wr.iterAt k s (pos + n)).iterPos k = pos + n) ∧
      Hid (decodeL (s.data.toList.drop pos) = (r, n)) ∧ Hid (s.data.toList.drop pos ≠ []) ∧
      Hid (GoodTok (r, (s.data.toList.drop pos).take n)) ∧
      Hid (toks (s.data.toList.drop pos) = (r, (s.data.toList.drop pos).take n) :: toks (s.data.toList.drop (pos + n))) ∧
      Hid (s.data.toList.take (pos + n) = s.data.toList.take pos ++ (s.data.toList.drop pos).take n) := by
  have hlt : k < wr.heap.size := (Array.getElem?_eq_some_iff.1 hit).1
  have hne := it_ne hp
  have hz : s.size = s.data.toList.length := by cases s; rfl
  have hwd := decodeL_width (s.data.toList.drop pos)
  have hdl := decodeL_le _ hne
  rw [List.length_drop, ← hz] at hdl
  have hg := good_head _ hne
  have ht := toks_step _ hne
  have hd := decodeL_drop s pos
  rw [hd] at hwd hdl hg ht
  rw [List.drop_drop] at ht
  have hit2 := Lib.iterAt_heap wr k s pos (pos + (Utf8.decode s pos).2) hit
  refine ⟨(Utf8.decode s pos).1, (Utf8.decode s pos).2, hwd, by omega, rune_le s pos, fun ty => Lib.run_next_any_at wr k s pos ty hit hp, hit2, Lib.below_iterAt hB hk s _, by rw [Lib.iterAt_size]; exact hlt, ?_, ?_, hd, hne, hg, ht, List.take_add⟩
  · show wr.iterPos k = pos
    simp only [World.iterPos, hit]
  · show (wr.iterAt k s _).iterPos k = _
    simp only [World.iterPos, hit2]

theorem iterPos_at {w : World} {k : Nat} {s : ByteArray} {p : Nat} (h : w.heap[k]? = some (.stringIter s p)) : w.iterPos k = p := by simp only [World.iterPos, h]

/-- the end -/
theorem iter_end {wr : World} {k : Nat} {s : ByteArray} {pos : Nat} (hit : wr.heap[k]? = some (.stringIter s pos)) (hp : ¬ pos < s.size) :
    ∀ ty, (Instr.next (.pointer (some ⟨k, 0, none⟩)) true ty).run Tryz.prog wr = .ok (.tuple #[.bool false]) wr := fun ty => Lib.run_next_end_at wr k s pos ty hit hp
end Go.Proofs.YtbblgnbafecdmaaGreatDoor
namespace Go.Proofs.YtbblgnbafecdmaaGreatDoor
open Go.RowKit Go.Lib

theorem tabs_below {g3 g4 : Nat} {B : Nat} {w w' : World} (h : Lib.Utf8Tabs g3 g4 w) (hb : Below B w w') (h3 : g3 < B) (h4 : g4 < B) : Lib.Utf8Tabs g3 g4 w' :=
  ⟨fun c hc => (hb.cell (p := ⟨g3, c, none⟩) h3).trans (h.1 c hc), fun i hi => ⟨(hb.cell (p := ⟨g4, 2 * i, none⟩) h4).trans (h.2 i hi).1, (hb.cell (p := ⟨g4, 2 * i + 1, none⟩) h4).trans (h.2 i hi).2⟩⟩
/-- what every law's walk is told of the world: the decoder's two tables lie where they lay -/
structure Tabs (w : World) : Prop where
  tabs : Lib.Utf8Tabs 1 2 w
  lt3 : 1 < w.heap.size
  lt4 : 2 < w.heap.size
  pow : Lib.TabIs Tryz.prog w "internal/strconv.uint64pow10" .u64 Lib.pow10Tab
theorem Tabs.on {w w' : World} (h : Tabs w) (hb : Below w.heap.size w w') : Tabs w' :=
  ⟨tabs_below h.tabs hb h.lt3 h.lt4, Nat.lt_of_lt_of_le h.lt3 hb.size, Nat.lt_of_lt_of_le h.lt4 hb.size, ((Lib.tabBelow_of_tabIs h.pow).on hb).here⟩

theorem decodeGo_extract (s : ByteArray) (pos : Nat) (h : pos < s.size) : Lib.decodeGo (s.extract pos s.size) = Utf8.decode s pos := by
  have h1 := Lib.decodeL_drop s pos
  have h2 := Lib.decodeL_drop (s.extract pos s.size) 0
  rw [List.drop_zero, Lib.extract_to_end] at h2
  unfold Lib.decodeGo
  rw [if_neg (by simp; omega), ← h2, h1]

theorem decode_from {w0 w : World} {s : ByteArray} {pos r n : Nat} (hp : pos < s.size) (hd : decodeL (s.data.toList.drop pos) = (r, n)) (hT : Tabs w0) (h : Below w0.heap.size w0 w) :
    Calls Tryz.prog 87 #[.string (s.extract pos s.size)] w fun e w' => e = .returned (.tuple #[.int .i32 r, .int .i64 n]) ∧ Below w0.heap.size w0 w' ∧ Below w.heap.size w w' :=
  (Tryz.utf8_DecodeRuneInString _ _ (tabs_below hT.tabs h hT.lt3 hT.lt4)).mono fun e w' ⟨he, hb⟩ =>
    ⟨by rw [he, decodeGo_extract s pos hp, ← decodeL_drop, hd], h.trans (hb.mono h.size), hb⟩

/-- one rune of a text, met by the decoder -/
theorem dec_step {s : ByteArray} {pos : Nat} (hp : pos < s.size) : ∃ r n : Nat, 1 ≤ n ∧ pos + n ≤ s.size ∧ r ≤ 1114111 ∧
      Hid (decodeL (s.data.toList.drop pos) = (r, n)) ∧ Hid (GoodTok (r, (s.data.toList.drop pos).take n)) ∧
      Hid (toks (s.data.toList.drop pos) = (r, (s.data.toList.drop pos).take n) :: toks (s.data.toList.drop (pos + n))) := by
  have hne := it_ne hp
  have hwd := decodeL_width (s.data.toList.drop pos)
  have hdl := decodeL_le _ hne
  rw [List.length_drop, ← ba_size] at hdl
  have hr := decodeL_rune (s.data.toList.drop pos)
  have hg := good_head _ hne
  have ht := toks_step _ hne
  rw [List.drop_drop] at ht
  exact ⟨_, _, hwd, by omega, hr, rfl, hg, ht⟩

theorem drop_cons {L : List UInt8} {pos : Nat} (hp : pos < L.length) : L.drop pos = L.getD pos 0 :: L.drop (pos + 1) := by
  rw [List.getD_eq_getElem?_getD, List.getElem?_eq_getElem hp]
  exact List.drop_eq_getElem_cons hp
theorem tok_ascii {L : List UInt8} {pos r n : Nat} (hp : pos < L.length) (hd : decodeL (L.drop pos) = (r, n)) (h : (L.getD pos 0).toNat < 128) : r = (L.getD pos 0).toNat ∧ n = 1 := by
  rw [drop_cons hp, decodeL_ascii _ _ h] at hd
  cases hd; exact ⟨rfl, rfl⟩
theorem tok_low {L : List UInt8} {pos r n : Nat} (hp : pos < L.length) (hl : pos + n ≤ L.length) (hg : GoodTok (r, (L.drop pos).take n)) (h1 : 1 ≤ n) (h : r < 128) : (L.getD pos 0).toNat = r ∧ n = 1 := by
  obtain ⟨b, e, hb⟩ := good_low hg h
  have e' : (L.drop pos).take n = [b] := e
  have hlen : ((L.drop pos).take n).length = n := by rw [List.length_take, List.length_drop]; omega
  rw [e'] at hlen
  have hn : n = 1 := by simpa using hlen.symm
  subst hn
  rw [drop_cons hp] at e'
  have : L.getD pos 0 = b := by simpa using e'
  rw [this]; exact ⟨hb, rfl⟩

theorem ext_tok (s : ByteArray) (pos n : Nat) : (s.extract pos (pos + n)).data.toList = (s.data.toList.drop pos).take n := by
  rw [ba_extract, List.drop_take, Nat.add_sub_cancel_left]
end Go.Proofs.YtbblgnbafecdmaaGreatDoor
