/- What NumberParts keeps while it counts. No walk in this text. -/
import Derived.Test.YtbblgnbafecdmaaDoorAll
import Derived.Maps.OwnSet
namespace Go.Proofs.YtbblgnbafecdmaaDoor
open Go.RowKit Go.Lib Go.Maps

theorem map_size_le {w : World} {b n : Nat} {D : DataW Unit} {K : TypeId} {R : Value → Option (DataW Unit × List MemPlace)} (h : w.ownsMap Tryd.prog K R b n D) : size D ≤ n := by
  obtain ⟨es, clock, -, -, h2, rfl⟩ := h
  rw [Maps.size_eq, length_read]
  exact h2
/-- the law's own counts lie in block K: the first is none of a level -/
def Cnt7 (K : Nat) (c : List Nat) (w : World) : Prop := w.heap[K]? = some (.cells ((0 :: c).map (fun n : Nat => Value.int .i64 n)).toArray 28 (0, 0))
theorem Cnt7.lt {K : Nat} {c : List Nat} {w : World} (h : Cnt7 K c w) : K < w.heap.size := (Array.getElem?_eq_some_iff.1 h).1
theorem Cnt7.kept {K : Nat} {c : List Nat} {w w' : World} (h : Cnt7 K c w) (hb : w'.heap[K]? = w.heap[K]?) : Cnt7 K c w' := hb.trans h
theorem Cnt7.cell {K : Nat} {c : List Nat} {w : World} (h : Cnt7 K c w) (j : Nat) (hj : j < c.length) : w.cell? ⟨K, j + 1, none⟩ = some (.int .i64 c[j]) ∧ w.frozen? ⟨K, j + 1, none⟩ = false := by
  refine ⟨?_, frozen_of_row w K (j + 1) _ _ h⟩
  rw [cell_of_row w K (j + 1) _ _ _ h]
  simp [hj]
theorem Cnt7.set {K : Nat} {c : List Nat} {w : World} (h : Cnt7 K c w) (j x : Nat) : Cnt7 K (c.set j x) (w.setCell ⟨K, j + 1, none⟩ (.int .i64 x)) := by
  unfold Cnt7
  rw [heap_setCell_same w K (j + 1) _ _ _ h]
  congr 2
  simp [List.map_set]

structure PartsSt (w0 : World) (K m : Nat) (c : List Nat) (k : Nat) (l : List Int) (vl : Value) (w : World) : Prop where
  cnt : Cnt7 K c w
  map : ∃ (n : Nat) (D : DataW Unit), n ≤ k ∧ w.ownsMap Tryd.prog 9 (plainElem Tryd.prog 4) m n D
  row : w.ownsRow w0.heap.size 9 1 vl l.length ((texts (allN l)).map .string)
  below : Below w0.heap.size w0 w
  geK : w0.heap.size ≤ K
  gem : w0.heap.size ≤ m
theorem PartsSt.on {w0 : World} {K m : Nat} {c : List Nat} {k : Nat} {l : List Int} {vl : Value} {w w' : World} (h : PartsSt w0 K m c k l vl w) (hb : Below w.heap.size w w') : PartsSt w0 K m c k l vl w' := by
  obtain ⟨n, D, hn, hm⟩ := h.map
  refine ⟨h.cnt.kept (hb.block K h.cnt.lt), ⟨n, D, hn, ?_⟩, row_kept h.row (fun g hg => hb.block g (h.row.lt g hg).2), h.below.trans (hb.mono h.below.size), h.geK, h.gem⟩
  obtain ⟨es, clock, h1, h2⟩ := hm
  exact ⟨es, clock, (hb.block m (Array.getElem?_eq_some_iff.1 h1).1).trans h1, h2⟩
theorem PartsSt.set {w0 : World} {K m : Nat} {c : List Nat} {k : Nat} {l : List Int} {vl : Value} {w : World} (h : PartsSt w0 K m c k l vl w) (j x : Nat) : PartsSt w0 K m (c.set j x) k l vl (w.setCell ⟨K, j + 1, none⟩ (.int .i64 x)) := by
  obtain ⟨n, D, hn, hm⟩ := h.map
  refine ⟨h.cnt.set j x, ⟨n, D, hn, ?_⟩, ?_, h.below.setCell h.geK _, h.geK, h.gem⟩
  · obtain ⟨es, clock, h1, h2⟩ := hm
    refine ⟨es, clock, ?_, h2⟩
    rw [Below.heap_setCell _ _ _ _ (fun e => ?_)]
    · exact h1
    · have e : m = K := e
      have h9 := h.cnt
      unfold Cnt7 at h9
      rw [← e, h1] at h9
      cases h9
  · refine row_kept h.row (fun g hg => Below.heap_setCell _ _ _ _ (fun e => ?_))
    exact row_not_struct h.row h.cnt (by decide) (by rw [hg]; exact congrArg some e)
theorem PartsSt.put {w0 : World} {K m : Nat} {c : List Nat} {k n : Nat} {l : List Int} {vl : Value} {w w' : World} {D : DataW Unit} (h : PartsSt w0 K m c k l vl w) (hn : n ≤ k + 1) (hm : w'.ownsMap Tryd.prog 9 (plainElem Tryd.prog 4) m n D) (hg : w.grownBy w' (some m)) : PartsSt w0 K m c (k + 1) l vl w' := by
  obtain ⟨n0, D0, hn0, es0, clock0, h10, h20⟩ := h.map
  refine ⟨h.cnt.kept (hg.block K h.cnt.lt (fun e => ?_)), ⟨n, D, hn, hm⟩, row_kept h.row (fun g hgb => hg.block g (h.row.lt g hgb).2 (fun e => ?_)), h.below.grown hg h.below.size (fun k hk => by cases hk; exact h.gem), h.geK, h.gem⟩
  · cases e
    have h9 := h.cnt
    unfold Cnt7 at h9
    rw [h10] at h9
    cases h9
  · cases e
    obtain ⟨-, cur, h9⟩ := row_block h.row hgb
    rw [h10] at h9
    cases h9
theorem PartsSt.more {w0 : World} {K m : Nat} {c : List Nat} {k k' : Nat} {l : List Int} {vl : Value} {w : World} (h : PartsSt w0 K m c k l vl w) (hk : k ≤ k') : PartsSt w0 K m c k' l vl w := by
  obtain ⟨n, D, hn, hm⟩ := h.map
  exact ⟨h.cnt, ⟨n, D, Nat.le_trans hn hk, hm⟩, h.row, h.below, h.geK, h.gem⟩

/-- the counts while those behind a level are struck -/
def midC (B c : List Nat) (i : Nat) : List Nat := B.take i ++ c.drop i
theorem midC_zero (B c : List Nat) : midC B c 0 = c := by simp [midC]
theorem midC_six {B c : List Nat} (h1 : B.length = 6) (h2 : c.length = 6) : midC B c 6 = B := by
  unfold midC
  rw [List.take_of_length_le (by omega), List.drop_of_length_le (by omega), List.append_nil]
theorem midC_len {B c : List Nat} (h1 : B.length = 6) (h2 : c.length = 6) {i : Nat} (hi : i ≤ 6) : (midC B c i).length = 6 := by
  unfold midC; rw [List.length_append, List.length_take, List.length_drop]; omega
theorem midC_get {B c : List Nat} (h1 : B.length = 6) (_h2 : c.length = 6) {i : Nat} (hi : i < 6) : (midC B c i)[i]? = c[i]? := by
  unfold midC
  rw [List.getElem?_append_right (by rw [List.length_take]; omega), List.length_take, Nat.min_eq_left (by omega), Nat.sub_self, List.getElem?_drop, Nat.add_zero]
theorem midC_set {B c : List Nat} (h1 : B.length = 6) (h2 : c.length = 6) {i : Nat} (hi : i < 6) : (midC B c i).set i (B[i]'(by omega)) = midC B c (i + 1) := by
  unfold midC
  have hl : (B.take i).length = i := by rw [List.length_take]; omega
  rw [List.set_append_right _ _ (by omega), hl, Nat.sub_self, List.drop_eq_getElem_cons (by omega), List.set_cons_zero, List.take_succ_eq_append_getElem (i := i) (l := B) (by omega), List.append_assoc]
  rfl
theorem midC_same {B c : List Nat} (h1 : B.length = 6) (h2 : c.length = 6) {i : Nat} (hi : i < 6) (h : B[i]'(by omega) = c[i]'(by omega)) : midC B c (i + 1) = midC B c i := by
  rw [← midC_set h1 h2 hi, h]
  apply List.ext_getElem?
  intro j
  by_cases hj : i = j
  · subst hj
    rw [List.getElem?_set_self (by rw [midC_len h1 h2 (by omega)]; exact hi), midC_get h1 h2 hi, List.getElem?_eq_getElem (by omega)]
  · rw [List.getElem?_set_ne hj]
theorem bump_get {c : List Nat} (h : c.length = 6) {j i n : Nat} (hj : j < 6) (hi : i < 6) (hn : c[j]? = some n) : (bump c (j + 1))[i]? = if j < i then some 0 else (c.set j (n + 1))[i]? := by
  match c, h with
  | [a, b, c, d, e, f], _ =>
    have h1 : j = 0 ∨ j = 1 ∨ j = 2 ∨ j = 3 ∨ j = 4 ∨ j = 5 := by omega
    have h2 : i = 0 ∨ i = 1 ∨ i = 2 ∨ i = 3 ∨ i = 4 ∨ i = 5 := by omega
    rcases h1 with rfl | rfl | rfl | rfl | rfl | rfl <;> cases hn <;> rcases h2 with rfl | rfl | rfl | rfl | rfl | rfl <;> rfl
theorem parts_take {B : List Nat} {i : Nat} (h : i < B.length) : partsL (B.take (i + 1)) = partsL (B.take i) + (if 0 < B[i] then 1 else 0) := by
  rw [List.take_succ_eq_append_getElem h, parts_app, parts_cons]; simp [partsL]
theorem parts_len (c : List Nat) : partsL c ≤ c.length := List.length_filter_le _ _
theorem dotsT_cons (r : Nat) (t : List UInt8) (ts : List (Nat × List UInt8)) : dotsT ((r, t) :: ts) = (if r = 46 then 1 else 0) + dotsT ts := by
  unfold dotsT
  rw [List.filter_cons]
  by_cases h : r = 46
  · subst h; simp; omega
  · simp [h]
theorem dotsT_len (ts : List (Nat × List UInt8)) : dotsT ts ≤ ts.length := List.length_filter_le _ _
end Go.Proofs.YtbblgnbafecdmaaDoor
