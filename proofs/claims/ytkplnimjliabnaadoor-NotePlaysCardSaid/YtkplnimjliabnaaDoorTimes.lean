/- (*note.Notes).Times and All: the walks. -/
import Derived.Test.YtkplnimjliabnaaDoorIds
namespace Go.Proofs.YtkplnimjliabnaaDoor
open Go.RowKit Go.Lib

set_option maxHeartbeats 1000000 in
theorem times_found {base : Nat} {F : Nat → Prop} {b k : Nat} {L : List ByteArray} {C : List Int} {nm : ByteArray} {w : World} {c : Int} (hck : C[k]? = some c) (h : NotesAt 30 base F b L C w) (hidx : idxName nm L 0 = k)
    (hL : L.length ≤ 100000) (hn : nm.size ≤ 9223372036854775807) (hl : ∀ x ∈ L, x.size ≤ 9223372036854775807) :
    Calls Tryd.prog 15 #[.pointer (some ⟨b, 0, none⟩), .string nm] w fun e w' => e = .returned (.int .i64 c) ∧ Below w.heap.size w w' := by
  have hk : k < C.length := (List.getElem?_eq_some_iff.1 hck).1
  have HCK := Lib.hid hck
  clear hck
  have HN := Lib.hid h
  have HI := Lib.hid hidx
  have HL := Lib.hid hl
  have hLk : k < 100000 := by have := h.len; omega
  obtain ⟨v1, v2, hb, h1, h2, hF⟩ := h.rows
  have hc := cell_of_row w b 0 #[v1, v2] _ _ hb
  simp only [List.getElem?_toArray, List.getElem?_cons_zero] at hc
  have HV := Lib.hid (namesIn_row h1)
  clear h hidx hl hb h1 h2 hF
  go_enter Tryd.func15, Tryd.ntmps15
  go_wp2_with fail
  refine (at_any nm L b v1 _ (by simpa using hc) HV.out hL hn HL.out).mono ?_
  rintro e w1 ⟨rfl, hb1⟩
  rw [HI.out]
  have hfr : Frame (fun _ => False) w w1 := Frame.of_below hb1
  have hN1 := HN.out.frame hfr (fun _ _ h => h)
  obtain ⟨u1, u2, hb, h1, h2, hF⟩ := hN1.rows
  obtain ⟨g, cap, rfl, hcap⟩ := row_some h2 (by rw [List.length_map]; omega)
  have c1 : w1.cell? ⟨b, 1, none⟩ = some (.slice (some ⟨g, 0, none⟩) C.length cap) := (cells_two hb).2.1
  have ck : w1.cell? ⟨g, k, none⟩ = some (.int .i64 c) := by
    rw [h2.cellAt k (by omega), List.getElem?_map, HCK.out]; rfl
  clear hb h1 h2 hF hfr hN1 hc
  have hki : (k : Int) < C.length := by omega
  have hk0 : 0 ≤ (k : Int) := by omega
  go_wp2_with fail
  go_ret
  exact ⟨rfl, hb1⟩

set_option maxHeartbeats 1000000 in
theorem times_none {base : Nat} {F : Nat → Prop} {b : Nat} {L : List ByteArray} {C : List Int} {nm : ByteArray} {w : World} (h : NotesAt 30 base F b L C w) (hidx : idxName nm L 0 = -1)
    (hL : L.length ≤ 100000) (hn : nm.size ≤ 9223372036854775807) (hl : ∀ x ∈ L, x.size ≤ 9223372036854775807) :
    Calls Tryd.prog 15 #[.pointer (some ⟨b, 0, none⟩), .string nm] w fun e w' => e = .returned (.int .i64 0) ∧ Below w.heap.size w w' := by
  have HI := Lib.hid hidx
  have HL := Lib.hid hl
  obtain ⟨v1, v2, hb, h1, h2, hF⟩ := h.rows
  have hc := cell_of_row w b 0 #[v1, v2] _ _ hb
  simp only [List.getElem?_toArray, List.getElem?_cons_zero] at hc
  have HV := Lib.hid (namesIn_row h1)
  clear h hidx hl hb h1 h2 hF
  go_enter Tryd.func15, Tryd.ntmps15
  go_wp2_with fail
  refine (at_any nm L b v1 _ (by simpa using hc) HV.out hL hn HL.out).mono ?_
  rintro e w1 ⟨rfl, hb1⟩
  rw [HI.out]
  go_wp2_with fail
  go_ret
  exact ⟨rfl, hb1⟩

set_option maxHeartbeats 1000000 in
theorem all_any {base : Nat} {F : Nat → Prop} {b : Nat} {L : List ByteArray} {C : List Int} {w : World} (h : NotesAt 30 base F b L C w) (hL : L.length ≤ 100000) :
    Calls Tryd.prog 12 #[.pointer (some ⟨b, 0, none⟩)] w fun e w' => ∃ v, e = .returned v ∧ w'.ownsRow w.heap.size 9 1 v L.length (L.map .string) ∧ Below w.heap.size w w' := by
  obtain ⟨v1, v2, hb, h1, h2, hF⟩ := h.rows
  have hc := (cells_two hb).1
  have HC : Hid (∀ w : World, w.ownsRow base 9 1 v1 L.length (L.map .string) → Calls Tryd.prog 22 #[v1] w fun e w' => ∃ v, e = .returned v ∧ w'.ownsRow w.heap.size 9 1 v L.length (L.map .string) ∧ Below w.heap.size w w') := by
    intro w h1
    by_cases h0 : L = []
    · subst h0
      rcases h1.2 with ⟨rfl, _⟩ | ⟨g, cap, cur, rfl, _⟩
      · refine (Tryd.slices_Clone_string_nil _ _ w).mono ?_
        rintro e w' ⟨rfl, rfl⟩
        exact ⟨_, rfl, World.ownsRow_nil _ _ _ _, Below.refl _ _⟩
      · refine (Tryd.slices_Clone_string_zero _ _ w).mono ?_
        rintro e w' ⟨v', rfl, ho, -, hb⟩
        exact ⟨_, rfl, ho, hb⟩
    · obtain ⟨g, cap, rfl, hcap⟩ := row_some h1 (by rw [List.length_map]; exact List.length_pos_iff.2 h0)
      refine (Tryd.slices_Clone_string g 0 L.length cap L w (Nat.le_refl _) (by omega) (fun j hj => ?_)).mono ?_
      · rw [Nat.zero_add, h1.cellAt j (by omega), List.getElem?_map, List.getD_eq_getElem?_getD, List.getElem?_eq_getElem hj]; rfl
      · rintro e w' ⟨v', rfl, ho, -, hb⟩
        rw [List.take_length] at ho
        exact ⟨_, rfl, ho, hb⟩
  have H1 := Lib.hid h1
  clear h hb h1 h2 hF
  go_enter Tryd.func12, Tryd.ntmps12
  go_wp2_with fail
  refine (HC.out _ H1.out).mono ?_
  rintro e w1 ⟨v', rfl, ho, hb1⟩
  have HO := Lib.hid ho
  clear ho
  go_wp2_with fail
  go_ret
  exact ⟨_, rfl, HO.out, hb1⟩
end Go.Proofs.YtkplnimjliabnaaDoor
