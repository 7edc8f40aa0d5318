/- NotePlays: what a nil pointer answers; the round's state. -/
import Derived.Test.YtkplnimjliabnaaDoorRRef
import Derived.Test.YtkplnimjliabnaaDoorRDigs
import Derived.Test.YtkplnimjliabnaaDoorBkApart
import Derived.Test.YtkplnimjliabnaaDoorOrderLaw
import Derived.Test.YtkplnimjliabnaaDoorRow
namespace Go.Proofs.YtkplnimjliabnaaDoor
open Go.RowKit Go.Lib

theorem none_ref (s : ByteArray) (w : World) : Calls Tryd.prog 9 #[.pointer none, .string s] w fun e w' => e = .returned (.tuple #[.int .i64 0, .int .i64 0]) ∧ Below w.heap.size w w' := by
  go_enter Tryd.func9, Tryd.ntmps9
  go_wp2_with fail
  go_ret2
  exact ⟨rfl, Below.refl _ _⟩
theorem none_times (s : ByteArray) (w : World) : Calls Tryd.prog 15 #[.pointer none, .string s] w fun e w' => e = .returned (.int .i64 0) ∧ Below w.heap.size w w' := by
  go_enter Tryd.func15, Tryd.ntmps15
  go_wp2_with fail
  go_ret
  exact ⟨rfl, Below.refl _ _⟩
theorem none_all (w : World) : Calls Tryd.prog 12 #[.pointer none] w fun e w' => e = .returned (.slice none 0 0) ∧ Below w.heap.size w w' := by
  go_enter Tryd.func12, Tryd.ntmps12
  go_wp2_with fail
  go_ret
  exact ⟨rfl, Below.refl _ _⟩

/-- how often a name was asked for -/
def timesZ (nm : ByteArray) (L : List ByteArray) (C : List Int) : Int := if 0 ≤ idxName nm L 0 then C.getD (idxName nm L 0).toNat 0 else 0
theorem times_any {base : Nat} {F : Nat → Prop} {b : Nat} {L : List ByteArray} {C : List Int} {nm : ByteArray} {w : World} (h : NotesAt 30 base F b L C w)
    (hL : L.length ≤ 100000) (hn : nm.size ≤ 9223372036854775807) (hl : ∀ x ∈ L, x.size ≤ 9223372036854775807) :
    Calls Tryd.prog 15 #[.pointer (some ⟨b, 0, none⟩), .string nm] w fun e w' => e = .returned (.int .i64 (timesZ nm L C)) ∧ Below w.heap.size w w' := by
  by_cases hm : nm ∈ L
  · obtain ⟨i, hi, hidx, -, -⟩ := idx_some hm 0
    rw [Nat.zero_add] at hidx
    have hiC : i < C.length := by rw [h.len]; exact hi
    have e : timesZ nm L C = C[i] := by
      unfold timesZ
      rw [hidx, if_pos (by omega), Int.toNat_natCast, List.getD_eq_getElem?_getD, List.getElem?_eq_getElem hiC]; rfl
    rw [e]
    exact times_found (List.getElem?_eq_getElem hiC) h hidx hL hn hl
  · have hidx := idx_none hm 0
    have e : timesZ nm L C = 0 := by unfold timesZ; rw [hidx, if_neg (by omega)]
    rw [e]
    exact times_none h hidx hL hn hl

/-- what stands at the head of each round -/
structure PlaySt (w0 : World) (nb rb kb k : Nat) (L : List ByteArray) (C : List Int) (vs : List Value) (Ls : List (List ByteArray)) (F G H : Nat → Prop) (w : World) : Prop where
  below : Below w0.heap.size w0 w
  notes : NotesAt 30 w0.heap.size F nb L C w
  refs : NotesAt 33 w0.heap.size G rb L C w
  book : bk.BookSt w0.heap.size H kb bk.nilS bk.nilS vs Ls w
  len : L.length ≤ k
  cnt : vs.length = k
  lens : ∀ M ∈ Ls, M.length ≤ k
  names : ∀ x ∈ L, x.size ≤ 9223372036854775807
  nums : ∀ c ∈ C, 0 ≤ c ∧ c ≤ k
  fg : ∀ q, F q → ¬ G q
  fh : ∀ q, F q → ¬ H q
  gh : ∀ q, G q → ¬ H q
/-- behind the two that ask: L', C' what is known then -/
structure PlayMid (w0 : World) (nb rb kb k : Nat) (L : List ByteArray) (C : List Int) (vs : List Value) (Ls : List (List ByteArray)) (F G H : Nat → Prop) (w : World) : Prop where
  below : Below w0.heap.size w0 w
  notes : NotesAt 30 w0.heap.size F nb L C w
  refs : NotesAt 33 w0.heap.size G rb L C w
  book : bk.BookSt w0.heap.size H kb bk.nilS bk.nilS vs Ls w
  len : L.length ≤ k + 1
  cnt : vs.length = k
  lens : ∀ M ∈ Ls, M.length ≤ k
  names : ∀ x ∈ L, x.size ≤ 9223372036854775807
  nums : ∀ c ∈ C, 0 ≤ c ∧ c ≤ k + 1
  fg : ∀ q, F q → ¬ G q
  fh : ∀ q, F q → ¬ H q
  gh : ∀ q, G q → ¬ H q
theorem PlayMid.on {w0 : World} {nb rb kb k : Nat} {L : List ByteArray} {C : List Int} {vs : List Value} {Ls : List (List ByteArray)} {F G H : Nat → Prop} {w w' : World} (h : PlayMid w0 nb rb kb k L C vs Ls F G H w) (hb : Below w.heap.size w w') : PlayMid w0 nb rb kb k L C vs Ls F G H w' :=
  ⟨h.below.trans (hb.mono h.below.size), h.notes.frame (Frame.of_below (F := fun _ => False) hb) (fun _ _ h => h), h.refs.frame (Frame.of_below (F := fun _ => False) hb) (fun _ _ h => h), h.book.below hb, h.len, h.cnt, h.lens, h.names, h.nums, h.fg, h.fh, h.gh⟩
/-- a name that is there is asked for by both -/
theorem PlaySt.found {w0 : World} {nb rb kb k i : Nat} {L : List ByteArray} {C : List Int} {c : Int} {vs : List Value} {Ls : List (List ByteArray)} {F G H : Nat → Prop} {w w1 w2 : World} (h : PlaySt w0 nb rb kb k L C vs Ls F G H w) (hc : C[i]? = some c)
    (h1 : NotesAt 30 w0.heap.size F nb L (C.set i (c + 1)) w1) (f1 : Frame F w w1) (h2 : NotesAt 33 w0.heap.size G rb L (C.set i (c + 1)) w2) (f2 : Frame G w1 w2) : PlayMid w0 nb rb kb k L (C.set i (c + 1)) vs Ls F G H w2 := by
  have hb1 := f1.on_below (fun q hq => (h.notes.lt q hq).1) h.below (Nat.le_refl _)
  have hb2 := f2.on_below (fun q hq => (h.refs.lt q hq).1) hb1 (Nat.le_refl _)
  have hcb := h.nums c (List.mem_of_getElem? hc)
  refine ⟨hb2, h1.frame f2 h.fg, h2, (h.book.frame f1 (fun q hq hf => h.fh q hf hq)).frame f2 (fun q hq hg => h.gh q hg hq), by have := h.len; omega, h.cnt, h.lens, h.names, fun z hz => ?_, h.fg, h.fh, h.gh⟩
  rcases List.mem_or_eq_of_mem_set hz with hz | rfl
  · have := h.nums z hz; omega
  · omega
/-- the reference, between the two -/
theorem PlaySt.mid {w0 : World} {nb rb kb k : Nat} {L : List ByteArray} {C : List Int} {vs : List Value} {Ls : List (List ByteArray)} {F G H : Nat → Prop} {w w1 : World} (h : PlaySt w0 nb rb kb k L C vs Ls F G H w) (f1 : Frame F w w1) : NotesAt 33 w0.heap.size G rb L C w1 :=
  h.refs.frame f1 (fun q hg hf => h.fg q hf hg)
/-- a new name -/
theorem PlaySt.new {w0 : World} {nb rb kb k : Nat} {L : List ByteArray} {C : List Int} {nm : ByteArray} {vs : List Value} {Ls : List (List ByteArray)} {F G H F' G' : Nat → Prop} {w w1 w2 : World} (h : PlaySt w0 nb rb kb k L C vs Ls F G H w) (hn : nm.size ≤ 9223372036854775807)
    (h1 : NotesAt 30 w0.heap.size F' nb (L ++ [nm]) (C ++ [1]) w1) (hF : ∀ q, F' q → F q ∨ w.heap.size ≤ q) (f1 : Frame F w w1) (h2 : NotesAt 33 w0.heap.size G' rb (L ++ [nm]) (C ++ [1]) w2) (hG : ∀ q, G' q → G q ∨ w1.heap.size ≤ q) (f2 : Frame G w1 w2) : PlayMid w0 nb rb kb k (L ++ [nm]) (C ++ [1]) vs Ls F' G' H w2 := by
  have hb1 := f1.on_below (fun q hq => (h.notes.lt q hq).1) h.below (Nat.le_refl _)
  have hb2 := f2.on_below (fun q hq => (h.refs.lt q hq).1) hb1 (Nat.le_refl _)
  have hs1 := f1.size
  refine ⟨hb2, h1.frame f2 (fun q hq hg => ?_), h2, (h.book.frame f1 (fun q hq hf => h.fh q hf hq)).frame f2 (fun q hq hg => h.gh q hg hq), by have := h.len; simp; omega, h.cnt, h.lens, fun y hy => ?_, fun z hz => ?_, fun q hq hg => ?_, fun q hq hh => ?_, fun q hq hh => ?_⟩
  · rcases hF q hq with hf | hf
    · exact h.fg q hf hg
    · have := (h.refs.lt q hg).2; omega
  · rcases List.mem_append.1 hy with hy | hy
    · exact h.names y hy
    · rw [List.mem_singleton.1 hy]; exact hn
  · rcases List.mem_append.1 hz with hz | hz
    · have := h.nums z hz; omega
    · rw [List.mem_singleton.1 hz]; omega
  · have hlt := (h1.lt q hq).2
    rcases hG q hg with hg | hg
    · rcases hF q hq with hf | hf
      · exact h.fg q hf hg
      · have := (h.refs.lt q hg).2; omega
    · omega
  · have hlt := (h.book.lt q hh).2
    rcases hF q hq with hf | hf
    · exact h.fh q hf hh
    · omega
  · have hlt := (h.book.lt q hh).2
    rcases hG q hq with hf | hf
    · exact h.gh q hf hh
    · omega
/-- the list of all names is kept -/
theorem PlayMid.kept {w0 : World} {nb rb kb k : Nat} {L : List ByteArray} {C : List Int} {vs : List Value} {Ls : List (List ByteArray)} {F G H H' : Nat → Prop} {v : Value} {w w' : World} (h : PlayMid w0 nb rb kb k L C vs Ls F G H w)
    (hb : bk.BookSt w0.heap.size H' kb bk.nilS bk.nilS (vs ++ [v]) (Ls ++ [L]) w') (hH : ∀ g, H' g → H g ∨ v.ownBlock = some g ∨ w.heap.size ≤ g) (hf : Frame H w w') (hv : ∀ g, v.ownBlock = some g → ¬ F g ∧ ¬ G g) : PlaySt w0 nb rb kb (k + 1) L C (vs ++ [v]) (Ls ++ [L]) F G H' w' := by
  refine ⟨hf.on_below (fun q hq => (h.book.lt q hq).1) h.below (Nat.le_refl _), h.notes.frame hf h.fh, h.refs.frame hf h.gh, hb, h.len, by simp [h.cnt], fun M hM => ?_, h.names, fun z hz => by have := h.nums z hz; omega, h.fg, fun q hq hh => ?_, fun q hq hh => ?_⟩
  · rcases List.mem_append.1 hM with hM | hM
    · have := h.lens M hM; omega
    · rw [List.mem_singleton.1 hM]; exact h.len
  · rcases hH q hh with e | e | e
    · exact h.fh q hq e
    · exact (hv q e).1 hq
    · have := (h.notes.lt q hq).2; omega
  · rcases hH q hh with e | e | e
    · exact h.gh q hq e
    · exact (hv q e).2 hq
    · have := (h.refs.lt q hq).2; omega
end Go.Proofs.YtkplnimjliabnaaDoor
