/- Sections, nodes, options that came in, opened. -/
import Derived.Test.YtpabackkapgkpaaGreatDoorHFits
import Derived.Deep.Slices
import Derived.ProofKit
import Derived.OpenShut
import Derived.ShutString
import Derived.ChangeOld
namespace Go.Proofs.YtpabackkapgkpaaGreatDoor
open Go.RowKit Go.ChangeShapes Go.WideShapes

section
variable {H : Type} {enc : TypeId × Value → H} {w : World} {base : Nat} {spare : Nat → Bool} {held : Bool}

set_option maxRecDepth 100000 in
theorem open_sec {fuel : Nat} {cs : List Value} {x : DataW H × List MemPlace} (h : DataW.trod enc Tryz.prog w base spare held fuel 29 cs = some x) :
    ∃ s : Sec, cs = s.cells := by
  obtain ⟨xs, n, -, -, hlen, hxl, hf⟩ := DataW.trod_struct Tryz.underlying29 h
  rw [show Tryz.prog.cellsOf 29 = 4 from by kernel_rfl] at hlen
  have hxl : xs.length = 4 := hxl
  match cs, hlen, xs, hxl with
  | [v0, v1, v2, v3], _, [y0, y1, y2, y3], _ =>
    have ci : Tryz.prog.cellsOf 3 = 1 := by kernel_rfl
    have cs : Tryz.prog.cellsOf 9 = 1 := by kernel_rfl
    have g0 := hf 0 ⟨ "Level", 3, 0, false, "", "", 0⟩ rfl
    have g1 := hf 1 ⟨ "Number", 9, 1, false, "", "", 8⟩ rfl
    have g2 := hf 2 ⟨ "Anchor", 9, 2, false, "", "", 24⟩ rfl
    have g3 := hf 3 ⟨ "Text", 9, 3, false, "", "", 40⟩ rfl
    simp only [ci, cs] at g0 g1 g2 g3
    simp only [List.drop_zero, List.drop_succ_cons, List.take_succ_cons, List.take_zero, List.getElem?_cons_zero, List.getElem?_cons_succ] at g0 g1 g2 g3
    obtain ⟨n0, e0, -, -⟩ := DataW.trod_int Tryz.underlying3 g0
    obtain ⟨n1, e1, -, -⟩ := DataW.trod_string Tryz.underlying9 g1
    obtain ⟨n2, e2, -, -⟩ := DataW.trod_string Tryz.underlying9 g2
    obtain ⟨n3, e3, -, -⟩ := DataW.trod_string Tryz.underlying9 g3
    simp at e0 e1 e2 e3
    subst e0 e1 e2 e3
    exact ⟨⟨n0, n1, n2, n3⟩, rfl⟩

/-- a slice of sections, of whatever length; its list, where it is not too long -/
theorem open_secs {v : Value} {d : DataW H} {p : List MemPlace} (h : DataW.Trod enc Tryz.prog w 0 (fun _ => true) true 24 v d p) (hv : ∃ a len cap, v = .slice a len cap) :
    ∃ a len cap, v = .slice a len cap ∧ len ≤ 9223372036854775807 ∧ (len ≤ 100000 → ∃ l : List Sec, l.length = len ∧ SecsIn w w.heap.size v l) := by
  obtain ⟨a, len, cap, rfl⟩ := hv
  obtain ⟨fuel, hf⟩ := h
  refine ⟨a, len, cap, rfl, ?_⟩
  rcases Deep.open_slice Tryz.underlying24 hf with ⟨hcs, -⟩ | ⟨x, len', cap', m, n, D, Pl, hcs, -, hl, hm, hmm, hx, hel⟩
  · simp [Value.cells] at hcs
    obtain ⟨rfl, rfl, rfl⟩ := hcs
    exact ⟨by omega, fun _ => ⟨[], rfl, none, 0, rfl, Nat.le_refl _, by simp, fun _ => rfl, Or.inl rfl⟩⟩
  · simp [Value.cells] at hcs
    obtain ⟨rfl, rfl, rfl⟩ := hcs
    unfold maxLen at hm
    refine ⟨by omega, fun hle => ?_⟩
    by_cases h0 : len = 0
    · subst h0; exact ⟨[], rfl, some x, cap, rfl, Nat.zero_le _, by simp, fun h => by simp at h, Or.inl rfl⟩
    simp only [if_true] at hmm
    subst hmm
    have key : ∀ i, i < len → ∃ s : Sec, ∀ j, j < 4 → w.cell? (x.add (i * 4 + j)) = s.cells[j]? := by
      intro i hi
      obtain ⟨cs, h1, h2⟩ := hel i (by omega)
      obtain ⟨s, rfl⟩ := open_sec h2
      rw [show Tryz.prog.cellsOf 29 = 4 from by kernel_rfl] at h1
      obtain ⟨_, _, h3⟩ := World.cells?_some h1
      exact ⟨s, fun j hj => by rw [← h3 j hj, Deep.add_add]⟩
    have : Inhabited Sec := ⟨Sec.zero⟩
    obtain ⟨f, hfs⟩ := Deep.choose_lt key
    obtain ⟨b, o, sp⟩ := x
    have hsp : sp = none := by
      have h := hfs 0 (by omega) 0 (by omega)
      simp only [Sec.cells, Nat.zero_mul, Nat.add_zero, List.getElem?_cons_zero] at h
      simpa [Addr.add] using World.cell?_spot h
    subst hsp
    refine ⟨(List.range len).map f, by simp, some ⟨b, o, none⟩, _, by simp; rfl, by simp; omega, by simp; omega, fun h => by simp at h, Or.inr ⟨b, o, rfl, ?_, ?_⟩⟩
    · exact DataW.trod_lt _ _ _ _ hf (.cell b o) (by
        rw [hx]
        refine List.mem_append_left _ ?_
        simp only [MemPlace.row, List.mem_map, List.mem_range]
        refine ⟨0, ?_, by simp⟩
        rw [show Tryz.prog.cellsOf 29 = 4 from by kernel_rfl]; omega)
    · intro i hi
      have hi' : i < len := by simpa using hi
      have k := hfs i hi'
      have e : ((List.range len).map f)[i] = f i := by simp
      rw [e]
      have k0 := k 0 (by omega)
      have k1 := k 1 (by omega)
      have k2 := k 2 (by omega)
      have k3 := k 3 (by omega)
      simp only [add_plain] at k0 k1 k2 k3
      exact ⟨by simpa [Sec.cells] using k0, by simpa [Sec.cells, Nat.add_assoc] using k1, by simpa [Sec.cells, Nat.add_assoc] using k2, by simpa [Sec.cells, Nat.add_assoc] using k3⟩

set_option maxRecDepth 100000 in
theorem open_inl {fuel : Nat} {cs : List Value} {x : DataW H × List MemPlace} (h : DataW.trod enc Tryz.prog w base spare held fuel 45 cs = some x) :
    ∃ s : Inl, cs = s.cells := by
  obtain ⟨xs, n, -, -, hlen, hxl, hf⟩ := DataW.trod_struct Tryz.underlying45 h
  rw [show Tryz.prog.cellsOf 45 = 5 from by kernel_rfl] at hlen
  have hxl : xs.length = 5 := hxl
  match cs, hlen, xs, hxl with
  | [v0, v1, v2, v3, v4], _, [y0, y1, y2, y3, y4], _ =>
    have ci : Tryz.prog.cellsOf 3 = 1 := by kernel_rfl
    have cs : Tryz.prog.cellsOf 9 = 1 := by kernel_rfl
    have g0 := hf 0 ⟨ "Kind", 3, 0, false, "", "", 0⟩ rfl
    have g1 := hf 1 ⟨ "Depth", 3, 1, false, "", "", 8⟩ rfl
    have g2 := hf 2 ⟨ "Text", 9, 2, false, "", "", 16⟩ rfl
    have g3 := hf 3 ⟨ "Url", 9, 3, false, "", "", 32⟩ rfl
    have g4 := hf 4 ⟨ "Title", 9, 4, false, "", "", 48⟩ rfl
    simp only [ci, cs] at g0 g1 g2 g3 g4
    simp only [List.drop_zero, List.drop_succ_cons, List.take_succ_cons, List.take_zero, List.getElem?_cons_zero, List.getElem?_cons_succ] at g0 g1 g2 g3 g4
    obtain ⟨n0, e0, -, -⟩ := DataW.trod_int Tryz.underlying3 g0
    obtain ⟨n1, e1, -, -⟩ := DataW.trod_int Tryz.underlying3 g1
    obtain ⟨n2, e2, -, -⟩ := DataW.trod_string Tryz.underlying9 g2
    obtain ⟨n3, e3, -, -⟩ := DataW.trod_string Tryz.underlying9 g3
    obtain ⟨n4, e4, -, -⟩ := DataW.trod_string Tryz.underlying9 g4
    simp at e0 e1 e2 e3 e4
    subst e0 e1 e2 e3 e4
    exact ⟨⟨n0, n1, n2, n3, n4⟩, rfl⟩
set_option maxRecDepth 100000 in
theorem open_opt {fuel : Nat} {cs : List Value} {x : DataW H × List MemPlace} (h : DataW.trod enc Tryz.prog w base spare held fuel 23 cs = some x) :
    ∃ (a b c d : Bool) (n : Int), cs = [.bool a, .bool b, .bool c, .bool d, .int .i64 n] := by
  obtain ⟨xs, n, -, -, hlen, hxl, hf⟩ := DataW.trod_struct Tryz.underlying23 h
  rw [show Tryz.prog.cellsOf 23 = 5 from by kernel_rfl] at hlen
  have hxl : xs.length = 5 := hxl
  match cs, hlen, xs, hxl with
  | [v0, v1, v2, v3, v4], _, [y0, y1, y2, y3, y4], _ =>
    have ci : Tryz.prog.cellsOf 3 = 1 := by kernel_rfl
    have cs : Tryz.prog.cellsOf 4 = 1 := by kernel_rfl
    have g0 := hf 0 ⟨ "Number", 4, 0, false, "", "", 0⟩ rfl
    have g1 := hf 1 ⟨ "Contents", 4, 1, false, "", "", 1⟩ rfl
    have g2 := hf 2 ⟨ "Notes", 4, 2, false, "", "", 2⟩ rfl
    have g3 := hf 3 ⟨ "Raw", 4, 3, false, "", "", 3⟩ rfl
    have g4 := hf 4 ⟨ "Depth", 3, 4, false, "", "", 8⟩ rfl
    simp only [ci, cs] at g0 g1 g2 g3 g4
    simp only [List.drop_zero, List.drop_succ_cons, List.take_succ_cons, List.take_zero, List.getElem?_cons_zero, List.getElem?_cons_succ] at g0 g1 g2 g3 g4
    obtain ⟨n0, e0, -⟩ := DataW.trod_bool Tryz.underlying4 g0
    obtain ⟨n1, e1, -⟩ := DataW.trod_bool Tryz.underlying4 g1
    obtain ⟨n2, e2, -⟩ := DataW.trod_bool Tryz.underlying4 g2
    obtain ⟨n3, e3, -⟩ := DataW.trod_bool Tryz.underlying4 g3
    obtain ⟨n4, e4, -, -⟩ := DataW.trod_int Tryz.underlying3 g4
    simp at e0 e1 e2 e3 e4
    subst e0 e1 e2 e3 e4
    exact ⟨n0, n1, n2, n3, n4, rfl⟩
def optsVal (a b c d : Bool) (n : Int) : Value := .agg #[.bool a, .bool b, .bool c, .bool d, .int .i64 n]
theorem open_opts {v : Value} {d : DataW H} {p : List MemPlace} (h : DataW.Trod enc Tryz.prog w 0 (fun _ => true) true 23 v d p) (hv : ∃ cs, v = .agg cs ∧ cs.size = Tryz.prog.cellsOf 23) :
    ∃ (a b c d : Bool) (n : Int), v = optsVal a b c d n := by
  obtain ⟨cs, rfl, hsz⟩ := hv
  obtain ⟨fuel, hf⟩ := h
  obtain ⟨a, b, c, d, n, e⟩ := open_opt hf
  refine ⟨a, b, c, d, n, ?_⟩
  have e : cs.toList = _ := e
  have : cs = #[.bool a, .bool b, .bool c, .bool d, .int .i64 n] := by apply Array.ext'; rw [e]
  rw [this]; rfl

/-- a slice of nodes, of whatever length; its list, where it is not too long -/
theorem open_inls {v : Value} {d : DataW H} {p : List MemPlace} (h : DataW.Trod enc Tryz.prog w 0 (fun _ => true) true 25 v d p) (hv : ∃ a len cap, v = .slice a len cap) :
    ∃ a len cap, v = .slice a len cap ∧ len ≤ 9223372036854775807 ∧ (len ≤ 100000 → ∃ l : List Inl, l.length = len ∧ InlsIn w (fun _ => False) v l) := by
  obtain ⟨a, len, cap, rfl⟩ := hv
  obtain ⟨fuel, hf⟩ := h
  refine ⟨a, len, cap, rfl, ?_⟩
  rcases Deep.open_slice Tryz.underlying25 hf with ⟨hcs, -⟩ | ⟨x, len', cap', m, n, D, Pl, hcs, -, hl, hm, hmm, hx, hel⟩
  · simp [Value.cells] at hcs
    obtain ⟨rfl, rfl, rfl⟩ := hcs
    exact ⟨by omega, fun _ => ⟨[], rfl, none, 0, rfl, Nat.le_refl _, by simp, Or.inl rfl⟩⟩
  · simp [Value.cells] at hcs
    obtain ⟨rfl, rfl, rfl⟩ := hcs
    unfold maxLen at hm
    refine ⟨by omega, fun hle => ?_⟩
    by_cases h0 : len = 0
    · subst h0; exact ⟨[], rfl, some x, cap, rfl, Nat.zero_le _, by omega, Or.inl rfl⟩
    simp only [if_true] at hmm
    subst hmm
    have key : ∀ i, i < len → ∃ s : Inl, ∀ j, j < 5 → w.cell? (x.add (i * 5 + j)) = s.cells[j]? := by
      intro i hi
      obtain ⟨cs, h1, h2⟩ := hel i (by omega)
      obtain ⟨s, rfl⟩ := open_inl h2
      rw [show Tryz.prog.cellsOf 45 = 5 from by kernel_rfl] at h1
      obtain ⟨_, _, h3⟩ := World.cells?_some h1
      exact ⟨s, fun j hj => by rw [← h3 j hj, Deep.add_add]⟩
    have : Inhabited Inl := ⟨⟨0, 0, ⟨#[]⟩, ⟨#[]⟩, ⟨#[]⟩⟩⟩
    obtain ⟨f, hfs⟩ := Deep.choose_lt key
    obtain ⟨b, o, sp⟩ := x
    have hsp : sp = none := by
      have h := hfs 0 (by omega) 0 (by omega)
      simp only [Inl.cells, Nat.zero_mul, Nat.add_zero, List.getElem?_cons_zero] at h
      simpa [Addr.add] using World.cell?_spot h
    subst hsp
    refine ⟨(List.range len).map f, by simp, some ⟨b, o, none⟩, _, by simp; rfl, by simp; omega, by omega, Or.inr ⟨b, o, rfl, ?_, fun h => h, ?_⟩⟩
    · exact DataW.trod_lt _ _ _ _ hf (.cell b o) (by
        rw [hx]
        refine List.mem_append_left _ ?_
        simp only [MemPlace.row, List.mem_map, List.mem_range]
        refine ⟨0, ?_, by simp⟩
        rw [show Tryz.prog.cellsOf 45 = 5 from by kernel_rfl]; omega)
    · intro i hi
      have hi' : i < len := by simpa using hi
      have k := hfs i hi'
      have e : ((List.range len).map f)[i] = f i := by simp
      rw [e]
      have k0 := k 0 (by omega)
      have k1 := k 1 (by omega)
      have k2 := k 2 (by omega)
      have k3 := k 3 (by omega)
      have k4 := k 4 (by omega)
      simp only [add_plain] at k0 k1 k2 k3 k4
      exact ⟨by simpa [Inl.cells] using k0, by simpa [Inl.cells, Nat.add_assoc] using k1, by simpa [Inl.cells, Nat.add_assoc] using k2, by simpa [Inl.cells, Nat.add_assoc] using k3, by simpa [Inl.cells, Nat.add_assoc] using k4⟩
end
end Go.Proofs.YtpabackkapgkpaaGreatDoor
