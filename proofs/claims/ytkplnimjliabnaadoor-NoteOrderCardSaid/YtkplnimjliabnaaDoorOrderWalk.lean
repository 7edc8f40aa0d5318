/- NoteOrder: the walk, at every list. -/
import Derived.Test.YtkplnimjliabnaaDoorOrder
namespace Go.Proofs.YtkplnimjliabnaaDoor
open Go.RowKit Go.Lib

theorem noteOrder_walk (v : Value) (W : World) (hT : Tabs W) (h : ∃ l : List ByteArray, RowIn W W.heap.size v (l.map Value.string) ∧ ∀ s ∈ l, s.size ≤ 9223372036854775807) :
    Calls Tryd.prog 5 #[v] W fun e w' => e = .returned (.bool true) ∧ Below W.heap.size W w' := by
  obtain ⟨l, ⟨a, cap, rfl, hlc, hcm, hr⟩, hs⟩ := h
  simp only [List.length_map] at *
  by_cases hl : l.length ≤ 60
  · refine order_main a cap l W hT hl hs ?_
    rcases hr with hr | ⟨b, o, ha, hb, hc⟩
    · exact .inl (by simpa using hr)
    · exact .inr ⟨b, o, ha, hb, fun i h => by
      have h9 := hc i h
      rw [List.getElem_map] at h9
      exact h9⟩
  · have h0 := Below.refl W.heap.size W
    have hi : 60 < (l.length : Int) := by omega
    clear hr
    go_enter Tryd.func5, Tryd.ntmps5
    go_wp2_with fail
    refine (alive_from (by assumption) hT).mono ?_
    rintro e w1 ⟨rfl, hb1⟩
    go_wp2_with fail
    go_ret
    exact ⟨rfl, by assumption⟩
end Go.Proofs.YtkplnimjliabnaaDoor
