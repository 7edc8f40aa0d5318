/- A strings.Builder that holds known bytes: what its methods do, said of lists of bytes. -/
import Derived.Test.YtbblgnbafecdmaaGreatDoorRows
import Derived.WalkKit
import Derived.WalkSpells
import Derived.WalkLawsBesides
import Derived.Lib.Hide
import Derived.Shelf.Abstract
import Derived.Test.YtbblgnbafecdmaaGreatDoorShelf
import Derived.Lib.FrozenHead
import Derived.Lib.OthersKept
import Derived.Lib.TrimUEq
import Derived.BigCall
namespace Go.Proofs.YtbblgnbafecdmaaGreatDoor
open Go.RowKit

/-- is a number in one of the spans? -/
def amongB (r : Int) (l : List (Int × Int)) : Bool := l.any fun p => decide (p.1 ≤ r) && decide (r ≤ p.2)

/-- the spans lie in block b from place o on -/
def SpansAt (w : World) (b o : Nat) (l : List (Int × Int)) : Prop :=
  ∀ i (h : i < l.length), w.cell? ⟨b, o + i * 2, none⟩ = some (.int .i32 l[i].1) ∧ w.cell? ⟨b, o + i * 2 + 1, none⟩ = some (.int .i32 l[i].2)

theorem SpansAt.below {B : Nat} {w w' : World} {b o : Nat} {l : List (Int × Int)} (h : SpansAt w b o l) (hb : Below B w w') (hlt : b < B) : SpansAt w' b o l :=
  fun i hi => ⟨(hb.cell (p := ⟨b, o + i * 2, none⟩) hlt).trans (h i hi).1, (hb.cell (p := ⟨b, o + i * 2 + 1, none⟩) hlt).trans (h i hi).2⟩

theorem ret_bool {a b : Bool} (h : a = b) : Ending.returned (.bool a) = .returned (.bool b) := by rw [h]
theorem ret_int {k : IntKind} {a b : Int} (h : a = b) : Ending.returned (.int k a) = .returned (.int k b) := by rw [h]

set_option maxHeartbeats 400000 in
theorem inSpan_any (r lo hi : Int) (c : Nat) (w : World) (hc : w.cell? ⟨c, 0, none⟩ = some (.int .i32 r)) :
    Calls Tryz.prog 103 #[.agg #[.int .i32 lo, .int .i32 hi], .pointer (some ⟨c, 0, none⟩)] w fun e w' => e = .returned (.bool (decide (lo ≤ r) && decide (r ≤ hi))) ∧ Below w.heap.size w w' := by
  have hlt := World.block_lt_of_cell? w _ hc
  have hne : ¬ c = w.heap.size := by simp at hlt; omega
  go_enter Tryz.func103, Tryz.ntmps103
  go_wp2
  all_goals go_ret
  all_goals exact ⟨ret_bool (by first | (simp; done) | (simp; omega)), (Below.refl _ _).alloc (Nat.le_refl _) _⟩

def idxSpan (r : Int) : List (Int × Int) → Nat → Int
  | [], _ => -1
  | p :: l, k => if (decide (p.1 ≤ r) && decide (r ≤ p.2)) = true then k else idxSpan r l (k + 1)

theorem idxSpan_ge (r : Int) (l : List (Int × Int)) (k : Nat) : decide (0 ≤ idxSpan r l k) = amongB r l := by
  induction l generalizing k with
  | nil => rfl
  | cons p l ih =>
    simp only [idxSpan, amongB, List.any_cons]
    split
    · next h => simp only [h, Bool.true_or]; simp
    · next h => simp only [Bool.not_eq_true] at h; rw [h, Bool.false_or]; exact ih _

set_option maxHeartbeats 400000 in
theorem indexSpan_any (r : Int) (l : List (Int × Int)) (c b o cap : Nat) (w : World) (hc : w.cell? ⟨c, 0, none⟩ = some (.int .i32 r)) (hs : SpansAt w b o l) (hb : b < w.heap.size) (_hcap : l.length ≤ cap) (hm : l.length ≤ 100000) :
    Calls Tryz.prog 114 #[.slice (some ⟨b, o, none⟩) l.length cap, .func (.func 103) #[] #[.pointer (some ⟨c, 0, none⟩)]] w fun e w' => e = .returned (.int .i64 (idxSpan r l 0)) ∧ Below w.heap.size w w' := by
  have hlt := World.block_lt_of_cell? w _ hc
  go_enter Tryz.func114, Tryz.ntmps114
  go_wp2
  go_loopw [8] (fun i wr => ∃ k : Nat, k ≤ l.length ∧ i = .int .i64 k ∧ idxSpan r (l.drop k) k = idxSpan r l 0 ∧ Below w.heap.size w wr) (fun i _ => l.length - (intOf i).toNat)
  case atStart => exact ⟨0, Nat.zero_le _, rfl, by simp, Below.refl _ _⟩
  case round =>
    obtain ⟨k, hk, rfl, hf, hB⟩ := hrel
    have H1 := Lib.hid hf
    clear hf
    by_cases hlk : k < l.length
    · have hs' := hs.below hB hb k hlk
      have s0 := hs'.1
      have s1 := hs'.2
      have hc' := (hB.cell (p := ⟨c, 0, none⟩) hlt).trans hc
      have hd := List.drop_eq_getElem_cons hlk
      have H2 := Lib.hid hd
      have eg := enters_of (P := Tryz.prog) Tryz.func103 (by kernel_rfl) rfl
      clear hs hs' hc hd
      go_wp2_with fail
      refine (inSpan_any r l[k].1 l[k].2 c _ hc').mono ?_
      rintro e w1 ⟨rfl, hb1⟩
      have hB1 := hB.trans (hb1.mono hB.size)
      clear hb1
      generalize hv : (decide (l[k].1 ≤ r) && decide (r ≤ l[k].2)) = v
      have H3 := Lib.hid hv
      clear hv hc' eg s0 s1
      cases v
      · go_wp2_with fail
        go_roundw
        case rel =>
          refine ⟨k + 1, by omega, by go_num, ?_, hB1⟩
          rw [← H1.out, H2.out]; simp [idxSpan, H3.out]
        case measure => simp [intOf]; omega
      · go_wp2_with fail
        go_ret
        refine ⟨ret_int ?_, hB1⟩
        rw [← H1.out, H2.out]; simp [idxSpan, H3.out]
    · go_wp2_with fail
      go_ret
      refine ⟨ret_int ?_, hB⟩
      have : k = l.length := by omega
      rw [← H1.out, this]; simp [idxSpan]

set_option maxHeartbeats 400000 in
theorem containsSpan_any (r : Int) (l : List (Int × Int)) (c b o cap : Nat) (w : World) (hc : w.cell? ⟨c, 0, none⟩ = some (.int .i32 r)) (hs : SpansAt w b o l) (hb : b < w.heap.size) (hcap : l.length ≤ cap) (hm : l.length ≤ 100000) :
    Calls Tryz.prog 102 #[.slice (some ⟨b, o, none⟩) l.length cap, .func (.func 103) #[] #[.pointer (some ⟨c, 0, none⟩)]] w fun e w' => e = .returned (.bool (amongB r l)) ∧ Below w.heap.size w w' := by
  have H := Lib.hid (idxSpan_ge r l 0)
  go_enter Tryz.func102, Tryz.ntmps102
  go_wp2_with fail
  refine (indexSpan_any r l c b o cap _ hc hs hb hcap hm).mono ?_
  rintro e w1 ⟨rfl, hb1⟩
  go_wp2_with fail
  go_ret
  exact ⟨ret_bool H.out, hb1⟩

set_option maxHeartbeats 400000 in
theorem among_any (r : Int) (l : List (Int × Int)) (b o cap : Nat) (w : World) (hs : SpansAt w b o l) (hb : b < w.heap.size) (hcap : l.length ≤ cap) (hm : l.length ≤ 100000) :
    Calls Tryz.prog 88 #[.int .i32 r, .slice (some ⟨b, o, none⟩) l.length cap] w fun e w' => e = .returned (.bool (amongB r l)) ∧ Below w.heap.size w w' := by
  have hmf : ∀ (fn : Fn) (first cap : Array Value) (w : World), (Instr.makeFunc fn first cap).run Tryz.prog w = .ok (.func fn first cap) w := fun _ _ _ _ => rfl
  have HS := Lib.hid hs
  clear hs
  go_enter Tryz.func88, Tryz.ntmps88
  go_wp2_with fail
  refine (containsSpan_any r l w.heap.size b o cap _ (by simp) (HS.out.below ((Below.refl _ _).alloc (Nat.le_refl _) _) hb) (by simp; omega) hcap hm).mono ?_
  rintro e w1 ⟨rfl, hb1⟩
  go_wp2_with fail
  go_ret
  exact ⟨rfl, ((Below.refl _ _).alloc (Nat.le_refl _) _).trans (hb1.mono (by simp))⟩

theorem spansAt_alloc (w : World) (l : List (Int × Int)) (e : TypeId) : SpansAt (w.alloc (.cells (l.flatMap fun p => [Value.int .i32 p.1, .int .i32 p.2]).toArray e)) w.heap.size 0 l := by
  have key : ∀ (l : List (Int × Int)) i (h : i < l.length), (l.flatMap fun p => [Value.int .i32 p.1, .int .i32 p.2])[i * 2]? = some (.int .i32 l[i].1) ∧ (l.flatMap fun p => [Value.int .i32 p.1, .int .i32 p.2])[i * 2 + 1]? = some (.int .i32 l[i].2) := by
    intro l
    induction l with
    | nil => intro i h; simp at h
    | cons p l ih =>
      intro i h
      cases i with
      | zero => simp
      | succ i =>
        have := ih i (by simpa using h)
        rw [show (i + 1) * 2 = i * 2 + 1 + 1 by omega]
        simpa using this
  intro i h
  have := key l i h
  have hb := heap_alloc_new w (.cells (l.flatMap fun p => [Value.int .i32 p.1, .int .i32 p.2]).toArray e)
  rw [Nat.zero_add]
  exact ⟨by simp only [World.cell?, hb]; simpa using this.1, by simp only [World.cell?, hb]; simpa using this.2⟩

def spaceSpans : List (Int × Int) := [(9, 10), (12, 13), (32, 32), (160, 160), (5760, 5760), (8192, 8202), (8239, 8239), (8287, 8287), (12288, 12288)]
def asciiSpans : List (Int × Int) := [(33, 47), (58, 64), (91, 96), (123, 126)]
def punctSpans : List (Int × Int) := [(8208, 8231), (8240, 8259), (12289, 12305)]
def punctList : List Int := [161, 167, 171, 182, 183, 187, 191, 8364]

set_option maxHeartbeats 400000 in
theorem space_any (r : Int) (w : World) :
    Calls Tryz.prog 86 #[.int .i32 r] w fun e w' => e = .returned (.bool (amongB r spaceSpans)) ∧ Below w.heap.size w w' := by
  go_enter Tryz.func86, Tryz.ntmps86
  go_wp2_with fail
  refine (among_any r spaceSpans w.heap.size 0 9 _ (spansAt_alloc w spaceSpans _) (by simp) (by decide) (by decide)).mono ?_
  rintro e w1 ⟨rfl, hb1⟩
  have hB := ((Below.refl _ w).alloc (Nat.le_refl _) _).trans (hb1.mono (by simp))
  go_wp2_with fail
  go_ret
  exact ⟨rfl, hB⟩

end Go.Proofs.YtbblgnbafecdmaaGreatDoor
namespace Go.Proofs.YtbblgnbafecdmaaGreatDoor
open Go.RowKit Go.Lib

theorem ba_eq {a b : ByteArray} (h : a.data.toList = b.data.toList) : a = b := by
  cases a; cases b; simp at h; rw [h]
theorem ba_append (a b : ByteArray) : (a ++ b).data.toList = a.data.toList ++ b.data.toList := by simp
theorem ba_size (a : ByteArray) : a.size = a.data.toList.length := by cases a; rfl
theorem ba_extract (s : ByteArray) (i j : Nat) : (s.extract i j).data.toList = (s.data.toList.take j).drop i := by
  simp [List.drop_take, List.extract_eq_take_drop]
theorem strCells_of {X : ByteArray} {t : List UInt8} (h : X.data.toList = t) : Lib.strCells X = Lib.byteCells t := by rw [← h]; rfl
theorem ba_mk (l : List UInt8) : (ByteArray.mk l.toArray).data.toList = l := by simp
theorem ret_string {a b : ByteArray} (h : a = b) : Ending.returned (.string a) = .returned (.string b) := by rw [h]

/-- a builder at block b, the call's own, holds the bytes l -/
def Holds (b : Nat) (l : List UInt8) (w : World) : Prop := Lib.IsBuilderF 114 5 b b (Lib.byteCells l) w

theorem Holds.fresh (w : World) : Holds w.heap.size [] (w.alloc (.cells #[.pointer none, .slice none 0 0] 114)) :=
  Lib.IsBuilderF.of (Lib.fresh_isBuilder 114 5 w)
theorem Holds.alloc {b : Nat} {l : List UInt8} {w : World} (h : Holds b l w) (o : Obj) : Holds b l (w.alloc o) := Lib.IsBuilderF.alloc h o
theorem Holds.drew {b : Nat} {l : List UInt8} {w : World} (h : Holds b l w) : Holds b l w.drew := h
theorem Holds.iterAt {b : Nat} {l : List UInt8} {w : World} (h : Holds b l w) {k : Nat} {s : ByteArray} {pos : Nat} (hk : w.heap[k]? = some (.stringIter s pos)) (pos' : Nat) : Holds b l (w.iterAt k s pos') := Lib.IsBuilderF.iterAt h hk pos'

theorem grown_of_below {w w' : World} (hb : Below w.heap.size w w') : w.grownBy w' none := ⟨hb.os, hb.tape, hb.output, hb.size, fun k hk _ => hb.block k hk⟩
theorem Holds.below {b : Nat} {l : List UInt8} {w w' : World} (h : Holds b l w) (hb : Below w.heap.size w w') : Holds b l w' := by
  have key : ∀ p bs, Lib.BuilderAtF 114 5 b b p bs w → Lib.BuilderAtF 114 5 b b p bs w' := by
    rintro p bs ⟨hB, v, hbk, hown, hne⟩
    refine ⟨hB, v, ?_, hown.kept (grown_of_below hb) (by cases h : v.ownBlock with | none => exact .inl rfl | some x => exact .inr (by simp)), hne⟩
    rw [hb.block b (Array.getElem?_eq_some_iff.1 hbk).1]; exact hbk
  exact h.elim (fun x => .inl (key _ _ x)) (fun x => .inr (key _ _ x))

/-- behind a call: the builder, the world below, what else lies there -/
structure Wrote (b : Nat) (l : List UInt8) (w w' : World) : Prop where
  holds : Holds b l w'
  below : Below b w w'
  kept : Lib.OthersKept 5 (some b) w w'

theorem write_str {b : Nat} {l t : List UInt8} {X : ByteArray} {w : World} (h : Holds b l w) (hb : b ≤ w.heap.size) (hX : X.data.toList = t) (hl : l.length + t.length ≤ 140737488355328) :
    Calls Tryz.prog 89 #[.pointer (some ⟨b, 0, none⟩), .string X] w fun e w' => e = .returned (.tuple #[.int .i64 X.size, .nilIface]) ∧ Wrote b (l ++ t) w w' :=
  (Tryz.Builder_WriteString_k b b _ X w h (by rw [Lib.byteCells_length, ba_size, hX]; exact hl) hb).mono fun _ _ ⟨he, h1, h2, h3⟩ =>
    ⟨he, ⟨by unfold Holds; rw [Lib.byteCells_append, ← strCells_of hX]; exact Or.inr h1, h2, h3⟩⟩
theorem write_byte {b : Nat} {l : List UInt8} {c : UInt8} {w : World} (h : Holds b l w) (hb : b ≤ w.heap.size) (hl : l.length + 1 ≤ 140737488355328) :
    Calls Tryz.prog 78 #[.pointer (some ⟨b, 0, none⟩), .int .u8 c.toNat] w fun e w' => e = .returned .nilIface ∧ Wrote b (l ++ [c]) w w' :=
  (Tryz.Builder_WriteByte_k b b _ _ w h (by rw [Lib.byteCells_length]; exact hl) hb).mono fun _ _ ⟨he, h1, h2, h3⟩ =>
    ⟨he, ⟨by unfold Holds; rw [Lib.byteCells_append]; exact Or.inr h1, h2, h3⟩⟩
theorem write_rune {b : Nat} {l : List UInt8} {r : Int} {w : World} (h : Holds b l w) (hb : b ≤ w.heap.size) (h0 : -2147483648 ≤ r) (h1 : r ≤ 2147483647) (hl : l.length + 4 ≤ 140737488355328) :
    Calls Tryz.prog 79 #[.pointer (some ⟨b, 0, none⟩), .int .i32 r] w fun e w' => e = .returned (.tuple #[.int .i64 (Lib.runeCells r).length, .nilIface]) ∧ Wrote b (l ++ Lib.encodeRune r) w w' :=
  (Tryz.Builder_WriteRune_k b b _ r h0 h1 w h (by have := Lib.runeCells_le r; rw [Lib.byteCells_length]; omega) hb).mono fun _ _ ⟨he, h1, h2, h3⟩ =>
    ⟨he, ⟨by unfold Holds; rw [Lib.byteCells_append, Lib.byteCells_encodeRune]; exact Or.inr h1, h2, h3⟩⟩
theorem read_str {b : Nat} {l : List UInt8} {w : World} (h : Holds b l w) (hb : b ≤ w.heap.size) :
    Calls Tryz.prog 80 #[.pointer (some ⟨b, 0, none⟩)] w fun e w' => e = .returned (.string ⟨l.toArray⟩) ∧ Wrote b l w w' :=
  (Tryz.Builder_String_any_k b b l w h hb).mono fun _ _ ⟨he, h1, h2, h3⟩ => ⟨he, ⟨h1, h2, h3⟩⟩
theorem read_len {b : Nat} {l : List UInt8} {w : World} (h : Holds b l w) :
    Calls Tryz.prog 77 #[.pointer (some ⟨b, 0, none⟩)] w fun e w' => e = .returned (.int .i64 l.length) ∧ w' = w :=
  (Tryz.Builder_Len_f b b _ w h).mono fun _ _ ⟨he, h1⟩ => ⟨by rw [he, Lib.byteCells_length], h1⟩
end Go.Proofs.YtbblgnbafecdmaaGreatDoor
