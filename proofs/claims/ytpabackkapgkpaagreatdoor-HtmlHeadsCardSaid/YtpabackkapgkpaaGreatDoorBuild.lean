/- A strings.Builder that holds known bytes: what its methods do, said of lists of bytes. -/
import Derived.Test.YtpabackkapgkpaaGreatDoorShelf
import Derived.WalkKit
import Derived.Lib.Hide
import Derived.Lib.OthersKept
import Derived.Lib.TrimUEq
import Derived.BigCall
namespace Go.Proofs.YtpabackkapgkpaaGreatDoor
open Go.RowKit Go.Lib

theorem ba_eq {a b : ByteArray} (h : a.data.toList = b.data.toList) : a = b := by
  cases a; cases b; simp at h; rw [h]
theorem ba_append (a b : ByteArray) : (a ++ b).data.toList = a.data.toList ++ b.data.toList := by simp
theorem ba_size (a : ByteArray) : a.size = a.data.toList.length := by cases a; rfl
theorem ba_extract (s : ByteArray) (i j : Nat) : (s.extract i j).data.toList = (s.data.toList.take j).drop i := by
  simp [List.drop_take, List.extract_eq_take_drop]
theorem strCells_of {X : ByteArray} {t : List UInt8} (h : X.data.toList = t) : Lib.strCells X = Lib.byteCells t := by rw [← h]; rfl
theorem ba_mk (l : List UInt8) : (ByteArray.mk l.toArray).data.toList = l := by simp
theorem ret_string {a b : ByteArray} (h : a = b) : Ending.returned (.string a) = .returned (.string b) := by rw [h]
theorem ret_bool {a b : Bool} (h : a = b) : Ending.returned (.bool a) = .returned (.bool b) := by rw [h]

/-- a builder at block b, the call's own, holds the bytes l -/
def Holds (b : Nat) (l : List UInt8) (w : World) : Prop := Lib.IsBuilderF 72 5 b b (Lib.byteCells l) w

theorem Holds.fresh (w : World) : Holds w.heap.size [] (w.alloc (.cells #[.pointer none, .slice none 0 0] 72)) :=
  Lib.IsBuilderF.of (Lib.fresh_isBuilder 72 5 w)
theorem Holds.alloc {b : Nat} {l : List UInt8} {w : World} (h : Holds b l w) (o : Obj) : Holds b l (w.alloc o) := Lib.IsBuilderF.alloc h o
theorem Holds.drew {b : Nat} {l : List UInt8} {w : World} (h : Holds b l w) : Holds b l w.drew := h
theorem Holds.iterAt {b : Nat} {l : List UInt8} {w : World} (h : Holds b l w) {k : Nat} {s : ByteArray} {pos : Nat} (hk : w.heap[k]? = some (.stringIter s pos)) (pos' : Nat) : Holds b l (w.iterAt k s pos') := Lib.IsBuilderF.iterAt h hk pos'

/-- behind a call: the builder, the world below, what else lies there -/
structure Wrote (b : Nat) (l : List UInt8) (w w' : World) : Prop where
  holds : Holds b l w'
  below : Below b w w'
  kept : Lib.OthersKept 5 (some b) w w'

theorem write_str {b : Nat} {l t : List UInt8} {X : ByteArray} {w : World} (h : Holds b l w) (hb : b ≤ w.heap.size) (hX : X.data.toList = t) (hl : l.length + t.length ≤ 140737488355328) :
    Calls Tryz.prog 33 #[.pointer (some ⟨b, 0, none⟩), .string X] w fun e w' => e = .returned (.tuple #[.int .i64 X.size, .nilIface]) ∧ Wrote b (l ++ t) w w' :=
  (Tryz.Builder_WriteString_k b b _ X w h (by rw [Lib.byteCells_length, ba_size, hX]; exact hl) hb).mono fun _ _ ⟨he, h1, h2, h3⟩ =>
    ⟨he, ⟨by unfold Holds; rw [Lib.byteCells_append, ← strCells_of hX]; exact Or.inr h1, h2, h3⟩⟩
theorem write_byte {b : Nat} {l : List UInt8} {c : UInt8} {w : World} (h : Holds b l w) (hb : b ≤ w.heap.size) (hl : l.length + 1 ≤ 140737488355328) :
    Calls Tryz.prog 53 #[.pointer (some ⟨b, 0, none⟩), .int .u8 c.toNat] w fun e w' => e = .returned .nilIface ∧ Wrote b (l ++ [c]) w w' :=
  (Tryz.Builder_WriteByte_k b b _ _ w h (by rw [Lib.byteCells_length]; exact hl) hb).mono fun _ _ ⟨he, h1, h2, h3⟩ =>
    ⟨he, ⟨by unfold Holds; rw [Lib.byteCells_append]; exact Or.inr h1, h2, h3⟩⟩
theorem write_rune {b : Nat} {l : List UInt8} {r : Int} {w : World} (h : Holds b l w) (hb : b ≤ w.heap.size) (h0 : -2147483648 ≤ r) (h1 : r ≤ 2147483647) (hl : l.length + 4 ≤ 140737488355328) :
    Calls Tryz.prog 62 #[.pointer (some ⟨b, 0, none⟩), .int .i32 r] w fun e w' => e = .returned (.tuple #[.int .i64 (Lib.runeCells r).length, .nilIface]) ∧ Wrote b (l ++ Lib.encodeRune r) w w' :=
  (Tryz.Builder_WriteRune_k b b _ r h0 h1 w h (by have := Lib.runeCells_le r; rw [Lib.byteCells_length]; omega) hb).mono fun _ _ ⟨he, h1, h2, h3⟩ =>
    ⟨he, ⟨by unfold Holds; rw [Lib.byteCells_append, Lib.byteCells_encodeRune]; exact Or.inr h1, h2, h3⟩⟩
theorem read_str {b : Nat} {l : List UInt8} {w : World} (h : Holds b l w) (hb : b ≤ w.heap.size) :
    Calls Tryz.prog 27 #[.pointer (some ⟨b, 0, none⟩)] w fun e w' => e = .returned (.string ⟨l.toArray⟩) ∧ Wrote b l w w' :=
  (Tryz.Builder_String_any_k b b l w h hb).mono fun _ _ ⟨he, h1, h2, h3⟩ => ⟨he, ⟨h1, h2, h3⟩⟩
end Go.Proofs.YtpabackkapgkpaaGreatDoor
