/- The anchors of texts, one behind the other; the sections of headings. No walk in this text. -/
import Derived.Test.YtbblgnbafecdmaaDoorSet
import Derived.Test.YtbblgnbafecdmaaDoorNumPlain
import Derived.Test.YtbblgnbafecdmaaDoorData
namespace Go.Proofs.YtbblgnbafecdmaaDoor
open Go.Lib

/-- the anchors of texts, one behind the other -/
def Chain (ts ids : List (List UInt8)) : Prop := ids.length = ts.length ∧ ∀ i t id, ts[i]? = some t → ids[i]? = some id → NextIs (ids.take i) (slugL t) id
theorem Chain.nil : Chain [] [] := ⟨rfl, fun i t id h => by simp at h⟩
theorem Chain.snoc {ts ids : List (List UInt8)} {t id : List UInt8} (h : Chain ts ids) (hn : NextIs ids (slugL t) id) : Chain (ts ++ [t]) (ids ++ [id]) := by
  obtain ⟨hl, hc⟩ := h
  refine ⟨by simp [hl], fun i t' id' h1 h2 => ?_⟩
  have hi : i < (ids ++ [id]).length := (List.getElem?_eq_some_iff.1 h2).1
  rw [List.length_append, List.length_singleton] at hi
  rcases Nat.lt_or_ge i ids.length with h3 | h3
  · rw [List.getElem?_append_left h3] at h2
    rw [List.getElem?_append_left (by omega)] at h1
    rw [List.take_append_of_le_length (by omega)]
    exact hc i t' id' h1 h2
  · obtain rfl : i = ids.length := by omega
    rw [List.getElem?_append_right (Nat.le_refl _)] at h2
    rw [List.getElem?_append_right (by omega)] at h1
    simp only [Nat.sub_self, List.getElem?_cons_zero, Option.some.injEq] at h2
    rw [show ids.length - ts.length = 0 by omega] at h1
    simp only [List.getElem?_cons_zero, Option.some.injEq] at h1
    subst h1 h2
    rw [List.take_left]
    exact hn
theorem Chain.uniq {ts ids ids' : List (List UInt8)} (h : Chain ts ids) (h' : Chain ts ids') : ids = ids' := by
  have key : ∀ n, ids.take n = ids'.take n := by
    intro n
    induction n with
    | zero => simp
    | succ n ih =>
      by_cases hn : n < ts.length
      · have h1 : n < ids.length := by rw [h.1]; exact hn
        have h2 : n < ids'.length := by rw [h'.1]; exact hn
        rw [List.take_succ_eq_append_getElem h1, List.take_succ_eq_append_getElem h2, ih]
        have e1 := h.2 n ts[n] ids[n] (List.getElem?_eq_getElem hn) (List.getElem?_eq_getElem h1)
        have e2 := h'.2 n ts[n] ids'[n] (List.getElem?_eq_getElem hn) (List.getElem?_eq_getElem h2)
        rw [ih] at e1
        rw [e1.uniq e2]
      · rw [List.take_of_length_le (by rw [h.1]; omega), List.take_of_length_le (by rw [h'.1]; omega)]
        rw [List.take_of_length_le (by rw [h.1]; omega), List.take_of_length_le (by rw [h'.1]; omega)] at ih
        exact ih
  have := key (ids.length + ids'.length)
  rwa [List.take_of_length_le (by omega), List.take_of_length_le (by omega)] at this

/-- a heading: its level, its text -/
structure Hd where
  level : Int
  text : ByteArray
def Hd.cells (h : Hd) : List Value := [.int .i64 h.level, .string h.text]
/-- the sections of headings -/
def secsOf (hs : List Hd) (ids : List (List UInt8)) : List Sec :=
  (hs.zip ((allN (hs.map (·.level))).zip ids)).map fun x => ⟨x.1.level, ⟨x.2.1.toArray⟩, ⟨x.2.2.toArray⟩, x.1.text⟩
theorem secsOf_nil : secsOf [] [] = [] := rfl
theorem secsOf_snoc {hs : List Hd} {ids : List (List UInt8)} (h : Hd) (id : List UInt8) (hl : ids.length = hs.length) :
    secsOf (hs ++ [h]) (ids ++ [id]) = secsOf hs ids ++ [⟨h.level, ⟨(numK (stC (hs.map (·.level))) h.level).toArray⟩, ⟨id.toArray⟩, h.text⟩] := by
  unfold secsOf
  rw [List.map_append, List.map_cons, List.map_nil, allN_snoc]
  rw [List.zip_append (l₁ := allN _) (by rw [allN_len, List.length_map, hl]), List.zip_append (by rw [List.length_zip, allN_len, List.length_map, hl, Nat.min_self])]
  simp
theorem secsOf_len {hs : List Hd} {ids : List (List UInt8)} (hl : ids.length = hs.length) : (secsOf hs ids).length = hs.length := by
  unfold secsOf
  rw [List.length_map, List.length_zip, List.length_zip, allN_len, List.length_map, hl]; omega
end Go.Proofs.YtbblgnbafecdmaaDoor
