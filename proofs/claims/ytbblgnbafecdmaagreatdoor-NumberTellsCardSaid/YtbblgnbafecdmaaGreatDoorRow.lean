/- A slice of elements of one cell each that came in, opened. -/
import Derived.Test.YtbblgnbafecdmaaGreatDoorProg
import Derived.Deep.Slices
import Derived.Deep.Grids
import Derived.SliceStrings
import Derived.ProofKit
import Derived.OpenShut
import Derived.ShutString
import Derived.ChangeOld
namespace Go.Proofs.YtbblgnbafecdmaaGreatDoor
open Go.RowKit Go.ChangeShapes Go.WideShapes

/-- v is a slice whose elements are xs, below block B -/
def RowIn (w : World) (B : Nat) (v : Value) (xs : List Value) : Prop :=
  ∃ a cap, v = .slice a xs.length cap ∧ xs.length ≤ cap ∧ cap ≤ 9223372036854775807 ∧ (xs = [] ∨ ∃ b o, a = some ⟨b, o, none⟩ ∧ b < B ∧ ∀ i (h : i < xs.length), w.cell? ⟨b, o + i, none⟩ = some xs[i])

theorem RowIn.below {B : Nat} {w w' : World} {v : Value} {xs : List Value} (h : RowIn w B v xs) (hb : Below B w w') : RowIn w' B v xs := by
  obtain ⟨a, cap, hv, h1, h2, h⟩ := h
  refine ⟨a, cap, hv, h1, h2, ?_⟩
  rcases h with h | ⟨b, o, ha, hlt, h⟩
  · exact .inl h
  · exact .inr ⟨b, o, ha, hlt, fun i hi => (hb.cell (p := ⟨b, o + i, none⟩) hlt).trans (h i hi)⟩

section
variable {H : Type} {enc : TypeId × Value → H} {w : World}

theorem row_of {T E : TypeId} (hT : Tryz.prog.underlying T = some (.slice E)) (hc : Tryz.prog.cellsOf E = 1) {v : Value} {d : DataW H} {p : List MemPlace}
    (h : DataW.Trod enc Tryz.prog w 0 (fun _ => true) true T v d p) (hv : ∃ a len cap, v = .slice a len cap) {Q : Value → Prop}
    (hq : ∀ (n : Nat) (x : Value) (y : DataW H × List MemPlace), DataW.trod enc Tryz.prog w 0 (fun _ => true) true n E [x] = some y → Q x) :
    ∃ xs : List Value, RowIn w w.heap.size v xs ∧ ∀ x ∈ xs, Q x := by
  obtain ⟨a, len, cap, rfl⟩ := hv
  obtain ⟨fuel, hf⟩ := h
  rcases Deep.open_slice1 hT hc hf with ⟨hcs, -⟩ | ⟨x, len', cap', m, n, V, D, Pl, hcs, -, hl, hm, hmm, hx, hel⟩
  · simp [Value.cells] at hcs
    obtain ⟨rfl, rfl, rfl⟩ := hcs
    exact ⟨[], ⟨none, 0, rfl, Nat.le_refl _, by omega, .inl rfl⟩, by simp⟩
  · simp [Value.cells] at hcs
    obtain ⟨rfl, rfl, rfl⟩ := hcs
    unfold maxLen at hm
    simp only [if_true] at hmm
    subst hmm
    by_cases h0 : len = 0
    · subst h0
      exact ⟨[], ⟨some x, _, rfl, by simp, by omega, .inl rfl⟩, by simp⟩
    obtain ⟨b, o, sp⟩ := x
    have hsp : sp = none := by
      have h := (hel 0 (by omega)).1
      simpa [Addr.add] using World.cell?_spot h
    subst hsp
    refine ⟨(List.range len).map V, ⟨some ⟨b, o, none⟩, m, by simp, by simpa using hl, by omega, .inr ⟨b, o, rfl, ?_, ?_⟩⟩, ?_⟩
    · exact DataW.trod_lt _ _ _ _ hf (.cell b o) (by
        rw [hx]
        refine List.mem_append_left _ ?_
        simp only [MemPlace.row, List.mem_map, List.mem_range]
        exact ⟨0, by omega, by simp⟩)
    · intro i hi
      have hi' : i < len := by simpa using hi
      have := (hel i (by omega)).1
      rw [add_plain] at this
      simpa using this
    · intro y hy
      obtain ⟨i, hi, rfl⟩ := List.mem_map.1 hy
      exact hq _ _ _ (hel i (by have := List.mem_range.1 hi; omega)).2

theorem map_of {α : Type} {f : α → Value} {Q : α → Prop} (xs : List Value) (h : ∀ x ∈ xs, ∃ a, x = f a ∧ Q a) : ∃ l : List α, xs = l.map f ∧ ∀ a ∈ l, Q a := by
  induction xs with
  | nil => exact ⟨[], rfl, by simp⟩
  | cons x xs ih =>
    obtain ⟨l, hl, hq⟩ := ih (fun y hy => h y (List.mem_cons_of_mem _ hy))
    obtain ⟨a, ha, hqa⟩ := h x (List.mem_cons_self ..)
    exact ⟨a :: l, by rw [ha, hl]; rfl, by intro b hb; rcases List.mem_cons.1 hb with rfl | hb; exact hqa; exact hq b hb⟩

theorem open_strs {T E : TypeId} (hT : Tryz.prog.underlying T = some (.slice E)) (hE : Tryz.prog.underlying E = some .string) (hc : Tryz.prog.cellsOf E = 1) {v : Value} {d : DataW H} {p : List MemPlace}
    (h : DataW.Trod enc Tryz.prog w 0 (fun _ => true) true T v d p) (hv : ∃ a len cap, v = .slice a len cap) :
    ∃ l : List ByteArray, RowIn w w.heap.size v (l.map Value.string) ∧ ∀ s ∈ l, s.size ≤ 9223372036854775807 := by
  obtain ⟨xs, hr, hx⟩ := row_of hT hc h hv (Q := fun x => ∃ s : ByteArray, x = .string s ∧ s.size ≤ 9223372036854775807) (fun n x y hy => by
    obtain ⟨s, h1, _, h3⟩ := DataW.trod_string hE hy
    exact ⟨s, by simpa using h1, by unfold maxLen at h3; omega⟩)
  obtain ⟨l, rfl, hl⟩ := map_of xs hx
  exact ⟨l, hr, hl⟩

theorem open_nums {T E : TypeId} {k : IntKind} (hT : Tryz.prog.underlying T = some (.slice E)) (hE : Tryz.prog.underlying E = some (.int k)) (hc : Tryz.prog.cellsOf E = 1) {v : Value} {d : DataW H} {p : List MemPlace}
    (h : DataW.Trod enc Tryz.prog w 0 (fun _ => true) true T v d p) (hv : ∃ a len cap, v = .slice a len cap) :
    ∃ l : List Int, RowIn w w.heap.size v (l.map (Value.int k)) ∧ ∀ n ∈ l, (Lit.int k n).wf = true := by
  obtain ⟨xs, hr, hx⟩ := row_of hT hc h hv (Q := fun x => ∃ n : Int, x = .int k n ∧ (Lit.int k n).wf = true) (fun n x y hy => by
    obtain ⟨z, h1, _, h3⟩ := DataW.trod_int hE hy
    exact ⟨z, by simpa using h1, h3⟩)
  obtain ⟨l, rfl, hl⟩ := map_of xs hx
  exact ⟨l, hr, hl⟩

theorem open_bls {T E : TypeId} (hT : Tryz.prog.underlying T = some (.slice E)) (hE : Tryz.prog.underlying E = some .bool) (hc : Tryz.prog.cellsOf E = 1) {v : Value} {d : DataW H} {p : List MemPlace}
    (h : DataW.Trod enc Tryz.prog w 0 (fun _ => true) true T v d p) (hv : ∃ a len cap, v = .slice a len cap) :
    ∃ l : List Bool, RowIn w w.heap.size v (l.map Value.bool) := by
  obtain ⟨xs, hr, hx⟩ := row_of hT hc h hv (Q := fun x => ∃ n : Bool, x = .bool n ∧ True) (fun n x y hy => by
    obtain ⟨z, h1, _⟩ := DataW.trod_bool hE hy
    exact ⟨z, by simpa using h1, trivial⟩)
  obtain ⟨l, rfl, hl⟩ := map_of xs hx
  exact ⟨l, hr⟩
end
end Go.Proofs.YtbblgnbafecdmaaGreatDoor
