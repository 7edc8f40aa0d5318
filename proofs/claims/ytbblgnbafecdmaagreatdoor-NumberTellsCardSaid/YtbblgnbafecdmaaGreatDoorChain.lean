/- The anchors of texts, one behind the other; the sections of headings. No walk in this text. -/
import Derived.Test.YtbblgnbafecdmaaGreatDoorRows
import Derived.WalkKit
import Derived.WalkSpells
import Derived.WalkLawsBesides
import Derived.Lib.Hide
import Derived.Test.YtbblgnbafecdmaaGreatDoorSet
import Derived.Test.YtbblgnbafecdmaaGreatDoorNumPlain
namespace Go.Proofs.YtbblgnbafecdmaaGreatDoor
open Go.RowKit

structure Sec where
  level : Int
  number : ByteArray
  anchor : ByteArray
  text : ByteArray

def Sec.zero : Sec := ⟨0, ⟨#[]⟩, ⟨#[]⟩, ⟨#[]⟩⟩

def Sec.val (s : Sec) : Value := .agg #[.int .i64 s.level, .string s.number, .string s.anchor, .string s.text]

/-- section s lies at a place of memory -/
structure SecAt (w : World) (b o : Nat) (s : Sec) : Prop where
  c0 : w.cell? ⟨b, o, none⟩ = some (.int .i64 s.level)
  c1 : w.cell? ⟨b, o + 1, none⟩ = some (.string s.number)
  c2 : w.cell? ⟨b, o + 2, none⟩ = some (.string s.anchor)
  c3 : w.cell? ⟨b, o + 3, none⟩ = some (.string s.text)

/-- the slice value v reads as the list l, below block B -/
def SecsIn (w : World) (B : Nat) (v : Value) (l : List Sec) : Prop :=
  ∃ a cap, v = .slice a l.length cap ∧ l.length ≤ cap ∧ l.length ≤ 100000 ∧ (a = none → cap = 0) ∧
    (l = [] ∨ ∃ b o, a = some ⟨b, o, none⟩ ∧ b < B ∧ ∀ i (h : i < l.length), SecAt w b (o + i * 4) l[i])

theorem SecAt.below {B : Nat} {w w' : World} {b o : Nat} {s : Sec} (h : SecAt w b o s) (hb : Below B w w') (hlt : b < B) : SecAt w' b o s :=
  ⟨(hb.cell (p := ⟨b, o, none⟩) hlt).trans h.c0, (hb.cell (p := ⟨b, o + 1, none⟩) hlt).trans h.c1, (hb.cell (p := ⟨b, o + 2, none⟩) hlt).trans h.c2, (hb.cell (p := ⟨b, o + 3, none⟩) hlt).trans h.c3⟩

theorem SecsIn.below {B : Nat} {w w' : World} {v : Value} {l : List Sec} (h : SecsIn w B v l) (hb : Below B w w') : SecsIn w' B v l := by
  obtain ⟨a, cap, rfl, hc, hm, hn, h⟩ := h
  refine ⟨a, cap, rfl, hc, hm, hn, ?_⟩
  rcases h with h | ⟨b, o, rfl, hlt, h⟩
  · exact Or.inl h
  · exact Or.inr ⟨b, o, rfl, hlt, fun i hi => (h i hi).below hb hlt⟩

theorem SecsIn.mono {B B' : Nat} {w : World} {v : Value} {l : List Sec} (h : SecsIn w B v l) (hB : B ≤ B') : SecsIn w B' v l := by
  obtain ⟨a, cap, rfl, hc, hm, hn, h⟩ := h
  refine ⟨a, cap, rfl, hc, hm, hn, ?_⟩
  rcases h with h | ⟨b, o, rfl, hlt, h⟩
  · exact Or.inl h
  · exact Or.inr ⟨b, o, rfl, by omega, h⟩

/-- the first section of an anchor -/
def findSec (anchor : ByteArray) : List Sec → Sec × Bool
  | [] => (Sec.zero, false)
  | s :: l => if s.anchor.toList == anchor.toList then (s, true) else findSec anchor l

/-- what is found among the first ones, of the last one's anchor, has that anchor -/
theorem find_prefix (l : List Sec) (k : Nat) (h : k < l.length) :
    (findSec l[k].anchor (l.take (k + 1))).2 = true ∧ ((findSec l[k].anchor (l.take (k + 1))).1.anchor.toList == l[k].anchor.toList) = true := by
  induction l generalizing k with
  | nil => simp at h
  | cons s l ih =>
    cases k with
    | zero => simp [findSec]
    | succ k =>
      have := ih k (by simpa using h)
      simp only [List.take_succ_cons, findSec, List.getElem_cons_succ]
      split
      · next e => exact ⟨rfl, e⟩
      · exact this

/-- a block whose cells are all known: what the walk wants of it -/
theorem block4 {wr : World} {g : Nat} {v0 v1 v2 v3 : Value} {e : TypeId} (h : wr.heap[g]? = some (.cells #[v0, v1, v2, v3] e)) :
    wr.cell? ⟨g, 0, none⟩ = some v0 ∧ wr.cell? ⟨g, 1, none⟩ = some v1 ∧ wr.cell? ⟨g, 2, none⟩ = some v2 ∧ wr.cell? ⟨g, 3, none⟩ = some v3 ∧
    wr.frozen? ⟨g, 0, none⟩ = false ∧ wr.frozen? ⟨g, 1, none⟩ = false ∧ wr.frozen? ⟨g, 2, none⟩ = false ∧ wr.frozen? ⟨g, 3, none⟩ = false ∧ g < wr.heap.size :=
  ⟨by simp [World.cell?, h], by simp [World.cell?, h], by simp [World.cell?, h], by simp [World.cell?, h],
   by simp [World.frozen?, h], by simp [World.frozen?, h], by simp [World.frozen?, h], by simp [World.frozen?, h], (Array.getElem?_eq_some_iff.1 h).1⟩

def Sec.cells (s : Sec) : List Value := [.int .i64 s.level, .string s.number, .string s.anchor, .string s.text]

theorem getElem?_secs (l : List Sec) (i j : Nat) (h : i < l.length) (hj : j < 4) : (l.flatMap Sec.cells)[i * 4 + j]? = (l[i].cells)[j]? := by
  induction l generalizing i with
  | nil => simp at h
  | cons s l ih =>
    rw [List.flatMap_cons]
    cases i with
    | zero => rw [List.getElem?_append_left (by simp [Sec.cells]; omega)]; simp
    | succ i =>
      rw [List.getElem?_append_right (by simp [Sec.cells]; omega)]
      have e : (i + 1) * 4 + j - s.cells.length = i * 4 + j := by simp [Sec.cells]; omega
      rw [e, ih i (by simpa using h)]
      simp

theorem secAt_row {w : World} {b : Nat} {l : List Sec} {e : TypeId} {f : Nat × Nat} {cs : Array Value} (hc : w.heap[b]? = some (.cells cs e f)) (hcs : ∀ i (h : i < l.length) j, j < 4 → cs[i * 4 + j]? = (l[i].cells)[j]?)
    (i : Nat) (h : i < l.length) : SecAt w b (0 + i * 4) l[i] := by
  have k0 := hcs i h 0 (by omega)
  have k1 := hcs i h 1 (by omega)
  have k2 := hcs i h 2 (by omega)
  have k3 := hcs i h 3 (by omega)
  rw [Nat.zero_add]
  simp only [Nat.add_zero] at k0
  exact ⟨by simp [World.cell?, hc, k0, Sec.cells], by simp [World.cell?, hc, k1, Sec.cells], by simp [World.cell?, hc, k2, Sec.cells], by simp [World.cell?, hc, k3, Sec.cells]⟩

theorem secsIn_alloc (w : World) (l : List Sec) (cap B : Nat) (e : TypeId) (hB : w.heap.size < B) (hc : l.length ≤ cap) (hm : l.length ≤ 100000) :
    SecsIn (w.alloc (.cells (l.flatMap Sec.cells).toArray e)) B (.slice (some ⟨w.heap.size, 0, none⟩) l.length cap) l :=
  ⟨_, cap, rfl, hc, hm, fun h => by simp at h, Or.inr ⟨w.heap.size, 0, rfl, hB, secAt_row (heap_alloc_new w _) fun i h j hj => by simpa using getElem?_secs l i j h hj⟩⟩

theorem flat_length (l : List Sec) : (l.flatMap Sec.cells).length = l.length * 4 := by
  induction l with
  | nil => rfl
  | cons s l ih => rw [List.flatMap_cons, List.length_append, ih]; simp [Sec.cells]; omega

theorem flat_take (l : List Sec) (k : Nat) : (l.take k).flatMap Sec.cells = (l.flatMap Sec.cells).take (k * 4) := by
  induction l generalizing k with
  | nil => simp
  | cons s l ih =>
    cases k with
    | zero => simp
    | succ k =>
      rw [List.take_succ_cons, List.flatMap_cons, List.flatMap_cons, List.take_append, ih]
      have e : (k + 1) * 4 - s.cells.length = k * 4 := by simp [Sec.cells]; omega
      rw [e, List.take_of_length_le (l := s.cells) (by simp [Sec.cells]; omega)]

theorem flat_drop (l : List Sec) (k : Nat) : (l.drop k).flatMap Sec.cells = (l.flatMap Sec.cells).drop (k * 4) := by
  induction l generalizing k with
  | nil => simp
  | cons s l ih =>
    cases k with
    | zero => simp
    | succ k =>
      rw [List.drop_succ_cons, List.flatMap_cons, List.drop_append, ih]
      have e : (k + 1) * 4 - s.cells.length = k * 4 := by simp [Sec.cells]; omega
      rw [e, List.drop_of_length_le (l := s.cells) (by simp [Sec.cells]; omega)]
      rfl

theorem flat_one (l : List Sec) : ∀ u ∈ l.flatMap Sec.cells, u.oneCell' = true := by
  intro u hu
  obtain ⟨s, -, h⟩ := List.mem_flatMap.1 hu
  simp [Sec.cells] at h
  rcases h with rfl | rfl | rfl | rfl <;> rfl

/-- the cells of a slice of sections, one behind the other -/
theorem SecsIn.cell {w : World} {B : Nat} {ad : Addr} {len cap : Nat} {l : List Sec} (h : SecsIn w B (.slice (some ad) len cap) l) :
    ∀ j u, (l.flatMap Sec.cells)[j]? = some u → w.cell? (ad.add j) = some u := by
  intro j u hu
  obtain ⟨a, c, he, -, -, -, h⟩ := h
  rcases h with rfl | ⟨b, o, rfl, -, h⟩
  · simp at hu
  · simp only [Value.slice.injEq, Option.some.injEq] at he
    obtain ⟨rfl, -, -⟩ := he
    have hj : j < l.length * 4 := by
      have := (List.getElem?_eq_some_iff.1 hu).1
      rwa [flat_length] at this
    have hi : j / 4 < l.length := by omega
    have e := getElem?_secs l (j / 4) (j % 4) hi (by omega)
    rw [show j / 4 * 4 + j % 4 = j by omega, hu] at e
    have hs := h (j / 4) hi
    have ea : (⟨b, o, none⟩ : Addr).add j = ⟨b, o + j / 4 * 4 + j % 4, none⟩ := by
      unfold Addr.add
      split
      · subst j; simp
      · simp; omega
    rw [ea]
    have hm : j % 4 < 4 := by omega
    generalize j % 4 = r at e hm
    match r, hm with
    | 0, _ => simp [Sec.cells] at e; rw [e]; exact hs.c0
    | 1, _ => simp [Sec.cells] at e; rw [e]; exact hs.c1
    | 2, _ => simp [Sec.cells] at e; rw [e]; exact hs.c2
    | 3, _ => simp [Sec.cells] at e; rw [e]; exact hs.c3

/-- a slice that the call owns reads as sections -/
theorem secsIn_own {w : World} {base B : Nat} {e : TypeId} {v : Value} {n : Nat} {l : List Sec} (h : w.ownsRow base e 4 v n (l.flatMap Sec.cells)) (hn : n = l.length) (hm : n ≤ 100000) (hB : w.heap.size ≤ B) : SecsIn w B v l := by
  subst hn
  rcases h.2 with ⟨rfl, h0⟩ | ⟨g, cap, cur, rfl, -, hg, hc, -, -, ht⟩
  · have : l = [] := List.eq_nil_of_length_eq_zero h0
    subst this
    exact ⟨none, 0, rfl, Nat.le_refl _, by simp, fun _ => rfl, Or.inl rfl⟩
  · refine ⟨_, cap, rfl, hc, hm, fun h => by simp at h, Or.inr ⟨g, 0, rfl, Nat.lt_of_lt_of_le (Array.getElem?_eq_some_iff.1 hg).1 hB, secAt_row hg fun i hi j hj => ?_⟩⟩
    rw [← getElem?_secs l i j hi hj, ← ht, List.getElem?_take, if_pos (by omega)]
    simp

/-- how a section is called -/
def callSec (s : Sec) (numbers : Bool) : ByteArray :=
  if numbers && !s.number.toList.isEmpty then s.number
  else if !s.text.toList.isEmpty then s.text
  else ⟨#[115, 101, 99, 116, 105, 111, 110]⟩

theorem callSec_ne (s : Sec) (n : Bool) : (callSec s n).toList.isEmpty = false := by
  unfold callSec
  split
  · next h => simp at h; simpa using h.2
  · split
    · next h => simpa using h
    · decide +kernel

end Go.Proofs.YtbblgnbafecdmaaGreatDoor
namespace Go.Proofs.YtbblgnbafecdmaaGreatDoor
open Go.Lib

/-- the anchors of texts, one behind the other -/
def Chain (ts ids : List (List UInt8)) : Prop := ids.length = ts.length ∧ ∀ i t id, ts[i]? = some t → ids[i]? = some id → NextIs (ids.take i) (slugL t) id
theorem Chain.nil : Chain [] [] := ⟨rfl, fun i t id h => by simp at h⟩
theorem Chain.snoc {ts ids : List (List UInt8)} {t id : List UInt8} (h : Chain ts ids) (hn : NextIs ids (slugL t) id) : Chain (ts ++ [t]) (ids ++ [id]) := by
  obtain ⟨hl, hc⟩ := h
  refine ⟨by simp [hl], fun i t' id' h1 h2 => ?_⟩
  have hi : i < (ids ++ [id]).length := (List.getElem?_eq_some_iff.1 h2).1
  rw [List.length_append, List.length_singleton] at hi
  rcases Nat.lt_or_ge i ids.length with h3 | h3
  · rw [List.getElem?_append_left h3] at h2
    rw [List.getElem?_append_left (by omega)] at h1
    rw [List.take_append_of_le_length (by omega)]
    exact hc i t' id' h1 h2
  · obtain rfl : i = ids.length := by omega
    rw [List.getElem?_append_right (Nat.le_refl _)] at h2
    rw [List.getElem?_append_right (by omega)] at h1
    simp only [Nat.sub_self, List.getElem?_cons_zero, Option.some.injEq] at h2
    rw [show ids.length - ts.length = 0 by omega] at h1
    simp only [List.getElem?_cons_zero, Option.some.injEq] at h1
    subst h1 h2
    rw [List.take_left]
    exact hn
theorem Chain.uniq {ts ids ids' : List (List UInt8)} (h : Chain ts ids) (h' : Chain ts ids') : ids = ids' := by
  have key : ∀ n, ids.take n = ids'.take n := by
    intro n
    induction n with
    | zero => simp
    | succ n ih =>
      by_cases hn : n < ts.length
      · have h1 : n < ids.length := by rw [h.1]; exact hn
        have h2 : n < ids'.length := by rw [h'.1]; exact hn
        rw [List.take_succ_eq_append_getElem h1, List.take_succ_eq_append_getElem h2, ih]
        have e1 := h.2 n ts[n] ids[n] (List.getElem?_eq_getElem hn) (List.getElem?_eq_getElem h1)
        have e2 := h'.2 n ts[n] ids'[n] (List.getElem?_eq_getElem hn) (List.getElem?_eq_getElem h2)
        rw [ih] at e1
        rw [e1.uniq e2]
      · rw [List.take_of_length_le (by rw [h.1]; omega), List.take_of_length_le (by rw [h'.1]; omega)]
        rw [List.take_of_length_le (by rw [h.1]; omega), List.take_of_length_le (by rw [h'.1]; omega)] at ih
        exact ih
  have := key (ids.length + ids'.length)
  rwa [List.take_of_length_le (by omega), List.take_of_length_le (by omega)] at this

/-- a heading: its level, its text -/
structure Hd where
  level : Int
  text : ByteArray
def Hd.cells (h : Hd) : List Value := [.int .i64 h.level, .string h.text]
/-- the sections of headings -/
def secsOf (hs : List Hd) (ids : List (List UInt8)) : List Sec :=
  (hs.zip ((allN (hs.map (·.level))).zip ids)).map fun x => ⟨x.1.level, ⟨x.2.1.toArray⟩, ⟨x.2.2.toArray⟩, x.1.text⟩
theorem secsOf_nil : secsOf [] [] = [] := rfl
theorem secsOf_snoc {hs : List Hd} {ids : List (List UInt8)} (h : Hd) (id : List UInt8) (hl : ids.length = hs.length) :
    secsOf (hs ++ [h]) (ids ++ [id]) = secsOf hs ids ++ [⟨h.level, ⟨(numK (stC (hs.map (·.level))) h.level).toArray⟩, ⟨id.toArray⟩, h.text⟩] := by
  unfold secsOf
  rw [List.map_append, List.map_cons, List.map_nil, allN_snoc]
  rw [List.zip_append (l₁ := allN _) (by rw [allN_len, List.length_map, hl]), List.zip_append (by rw [List.length_zip, allN_len, List.length_map, hl, Nat.min_self])]
  simp
theorem secsOf_len {hs : List Hd} {ids : List (List UInt8)} (hl : ids.length = hs.length) : (secsOf hs ids).length = hs.length := by
  unfold secsOf
  rw [List.length_map, List.length_zip, List.length_zip, allN_len, List.length_map, hl]; omega
end Go.Proofs.YtbblgnbafecdmaaGreatDoor
