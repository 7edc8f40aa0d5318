/- Sections that came in, opened, with the sizes of their texts. -/
import Derived.Test.YtpabackkapgkpaaGreatDoorHOpen
import Derived.SizedLaws
namespace Go.Proofs.YtpabackkapgkpaaGreatDoor
open Go.RowKit Go.ChangeShapes Go.WideShapes

section
variable {H : Type} {enc : TypeId × Value → H} {w : World} {base : Nat} {spare : Nat → Bool} {held : Bool}

/-- a section whose texts fit a machine -/
def Sec.Fits (s : Sec) : Prop := s.number.size ≤ reachBytes ∧ s.anchor.size ≤ reachBytes ∧ s.text.size ≤ reachBytes

theorem weights_all {P : Program} {e : TypeId} : ∀ {l : List (DataW H)} {d : DataW H}, d ∈ l → ∀ n ∈ d.weights P e, n ∈ DataW.weightsAll P e l
  | d0 :: r, d, hd, n, hn => by
    rw [DataW.weightsAll]
    rcases List.mem_cons.1 hd with rfl | hd
    · exact List.mem_append_left _ hn
    · exact List.mem_append_right _ (weights_all hd n hn)

set_option maxRecDepth 100000 in
theorem open_sec_sized {fuel : Nat} {cs : List Value} {x : DataW H × List MemPlace} (h : DataW.trod enc Tryz.prog w base spare held fuel 29 cs = some x) (hw : ∀ n ∈ x.1.weights Tryz.prog 29, n ≤ reachBytes) :
    ∃ s : Sec, cs = s.cells ∧ s.Fits := by
  obtain ⟨xs, n, -, hxx, hlen, hxl, hf⟩ := DataW.trod_struct Tryz.underlying29 h
  rw [show Tryz.prog.cellsOf 29 = 4 from by kernel_rfl] at hlen
  have hxl : xs.length = 4 := hxl
  match cs, hlen, xs, hxl with
  | [v0, v1, v2, v3], _, [y0, y1, y2, y3], _ =>
    have ci : Tryz.prog.cellsOf 3 = 1 := by kernel_rfl
    have cs : Tryz.prog.cellsOf 9 = 1 := by kernel_rfl
    have g0 := hf 0 ⟨ "Level", 3, 0, false, "", "", 0⟩ rfl
    have g1 := hf 1 ⟨ "Number", 9, 1, false, "", "", 8⟩ rfl
    have g2 := hf 2 ⟨ "Anchor", 9, 2, false, "", "", 24⟩ rfl
    have g3 := hf 3 ⟨ "Text", 9, 3, false, "", "", 40⟩ rfl
    simp only [ci, cs] at g0 g1 g2 g3
    simp only [List.drop_zero, List.drop_succ_cons, List.take_succ_cons, List.take_zero, List.getElem?_cons_zero, List.getElem?_cons_succ] at g0 g1 g2 g3
    obtain ⟨n0, e0, -, -⟩ := DataW.trod_int Tryz.underlying3 g0
    obtain ⟨n1, e1, f1, -⟩ := DataW.trod_string Tryz.underlying9 g1
    obtain ⟨n2, e2, f2, -⟩ := DataW.trod_string Tryz.underlying9 g2
    obtain ⟨n3, e3, f3, -⟩ := DataW.trod_string Tryz.underlying9 g3
    simp at e0 e1 e2 e3
    subst e0 e1 e2 e3
    rw [hxx] at hw
    have hu := Tryz.underlying29
    have hw : ∀ (j : Nat) (t : TypeId) (y : DataW H), [3, 9, 9, 9][j]? = some t → [y0.1, y1.1, y2.1, y3.1][j]? = some y → ∀ n ∈ y.weights Tryz.prog t, n ≤ reachBytes := fun j t y h1 h2 n hn => hw n (by
      rw [DataW.weights, hu]
      exact DataW.weights_mem_each (j := j) (ts := [3, 9, 9, 9]) h1 h2 n hn)
    refine ⟨⟨n0, n1, n2, n3⟩, rfl, ?_, ?_, ?_⟩
    · exact hw 1 _ _ rfl rfl _ (by rw [f1, DataW.weights]; exact List.mem_singleton.2 rfl)
    · exact hw 2 _ _ rfl rfl _ (by rw [f2, DataW.weights]; exact List.mem_singleton.2 rfl)
    · exact hw 3 _ _ rfl rfl _ (by rw [f3, DataW.weights]; exact List.mem_singleton.2 rfl)

/-- a slice of sections, of whatever length; its list, where it is not too long -/
theorem open_secs_sized {v : Value} {d : DataW H} {p : List MemPlace} (h : DataW.Trod enc Tryz.prog w 0 (fun _ => true) true 24 v d p) (hv : ∃ a len cap, v = .slice a len cap) (hw : ∀ n ∈ d.weights Tryz.prog 24, n ≤ reachBytes) :
    ∃ a len cap, v = .slice a len cap ∧ len ≤ 9223372036854775807 ∧ (len ≤ 100000 → ∃ l : List Sec, l.length = len ∧ SecsIn w w.heap.size v l ∧ ∀ s ∈ l, s.Fits) := by
  obtain ⟨a, len, cap, rfl⟩ := hv
  obtain ⟨fuel, hf⟩ := h
  have hu := Tryz.underlying24
  refine ⟨a, len, cap, rfl, ?_⟩
  rcases Deep.open_slice Tryz.underlying24 hf with ⟨hcs, -⟩ | ⟨x, len', cap', m, n, D, Pl, hcs, -, hl, hm, hmm, hx, hel⟩
  · simp [Value.cells] at hcs
    obtain ⟨rfl, rfl, rfl⟩ := hcs
    exact ⟨by omega, fun _ => ⟨[], rfl, ⟨none, 0, rfl, Nat.le_refl _, by simp, fun _ => rfl, Or.inl rfl⟩, fun s hs => (by cases hs)⟩⟩
  · simp [Value.cells] at hcs
    obtain ⟨rfl, rfl, rfl⟩ := hcs
    unfold maxLen at hm
    refine ⟨by omega, fun hle => ?_⟩
    by_cases h0 : len = 0
    · subst h0; exact ⟨[], rfl, ⟨some x, cap, rfl, Nat.zero_le _, by simp, fun h => by simp at h, Or.inl rfl⟩, fun s hs => by (cases hs)⟩
    simp only [if_true] at hmm
    subst hmm
    have key : ∀ i, i < len → ∃ s : Sec, (∀ j, j < 4 → w.cell? (x.add (i * 4 + j)) = s.cells[j]?) ∧ s.Fits := by
      intro i hi
      obtain ⟨cs, h1, h2⟩ := hel i (by omega)
      obtain ⟨s, rfl, hfit⟩ := open_sec_sized h2 (fun n hn => hw n (by
        rw [(Prod.mk.inj hx).1]
        simp only [DataW.weights, hu]
        exact List.mem_cons_of_mem _ (List.mem_append_left _ (weights_all (List.mem_map.2 ⟨i, List.mem_range.2 hi, rfl⟩) n hn))))
      rw [show Tryz.prog.cellsOf 29 = 4 from by kernel_rfl] at h1
      obtain ⟨_, _, h3⟩ := World.cells?_some h1
      exact ⟨s, fun j hj => by rw [← h3 j hj, Deep.add_add], hfit⟩
    have : Inhabited Sec := ⟨Sec.zero⟩
    obtain ⟨f, hfs2⟩ := Deep.choose_lt key
    have hfs := fun i hi => (hfs2 i hi).1
    obtain ⟨b, o, sp⟩ := x
    have hsp : sp = none := by
      have h := hfs 0 (by omega) 0 (by omega)
      simp only [Sec.cells, Nat.zero_mul, Nat.add_zero, List.getElem?_cons_zero] at h
      simpa [Addr.add] using World.cell?_spot h
    subst hsp
    refine ⟨(List.range len).map f, by simp, ⟨some ⟨b, o, none⟩, _, by simp; rfl, by simp; omega, by simp; omega, fun h => by simp at h, Or.inr ⟨b, o, rfl, ?_, ?_⟩⟩, fun s hs => ?_⟩
    · exact DataW.trod_lt _ _ _ _ hf (.cell b o) (by
        rw [hx]
        refine List.mem_append_left _ ?_
        simp only [MemPlace.row, List.mem_map, List.mem_range]
        refine ⟨0, ?_, by simp⟩
        rw [show Tryz.prog.cellsOf 29 = 4 from by kernel_rfl]; omega)
    · intro i hi
      have hi' : i < len := by simpa using hi
      have k := hfs i hi'
      have e : ((List.range len).map f)[i] = f i := by simp
      rw [e]
      have k0 := k 0 (by omega)
      have k1 := k 1 (by omega)
      have k2 := k 2 (by omega)
      have k3 := k 3 (by omega)
      simp only [add_plain] at k0 k1 k2 k3
      exact ⟨by simpa [Sec.cells] using k0, by simpa [Sec.cells, Nat.add_assoc] using k1, by simpa [Sec.cells, Nat.add_assoc] using k2, by simpa [Sec.cells, Nat.add_assoc] using k3⟩
    · obtain ⟨i, hi, rfl⟩ := List.mem_map.1 hs
      exact (hfs2 i (List.mem_range.1 hi)).2

end
end Go.Proofs.YtpabackkapgkpaaGreatDoor
