/- (*bowdlerbook.Book).Texts: the walk. -/
import Derived.Test.YtbblgnbafecdmaaGreatDoorBkSt
import Derived.Deep.RegionHeld3
import Derived.Deep.AppendLies
namespace Go.Proofs.YtbblgnbafecdmaaGreatDoor.bk
open Go.RowKit Go.Lib

theorem info_strs : (Tryz.prog.info? 23).map (fun i => (i.zero, i.size, i.bytes)) = some (some (.slice none 0 0), 1, 24) := by kernel_rfl
theorem namesIn_of {w : World} {base : Nat} {v : Value} {L : List ByteArray} {n : Nat} (h : w.ownsRow base 9 1 v n (L.map .string)) : NamesIn w v L := by
  have : n = L.length := by have := h.1; simp at this; omega
  subst this
  exact namesIn_row h
theorem NamesIn.heap {w w' : World} {v : Value} {l : List ByteArray} (h : NamesIn w v l) (hh : w'.heap = w.heap) : NamesIn w' v l := by
  rcases h with h | ⟨b, o, cap, hv, hlt, hc⟩
  · exact .inl h
  · exact .inr ⟨b, o, cap, hv, by rw [hh]; exact hlt, fun i hi => by have := hc i hi; unfold World.cell? at this ⊢; rw [hh]; exact this⟩
def TextsPost (base : Nat) (F : Nat → Prop) (b : Nat) (vS vX : Value) (vs : List Value) (Ls : List (List ByteArray)) (v : Value) (L : List ByteArray) (w : World) (e : Ending) (w' : World) : Prop :=
  e = .returned (.tuple #[]) ∧ (∃ F', BookSt base F' b vS vX (vs ++ [v]) (Ls ++ [L]) w' ∧ ∀ g, F' g → F g ∨ v.ownBlock = some g ∨ w.heap.size ≤ g) ∧ Frame F w w'

set_option maxRecDepth 100000 in
set_option maxHeartbeats 2000000 in
theorem texts_any {base : Nat} {F : Nat → Prop} {b : Nat} {vS vX : Value} {vs : List Value} {Ls : List (List ByteArray)} {w : World} (h : BookSt base F b vS vX vs Ls w) (v : Value) (L : List ByteArray) (hv : w.ownsRow base 9 1 v L.length (L.map .string)) (hnew : ∀ g, v.ownBlock = some g → ¬ F g) (hn : vs.length < 250) (hL : L.length ≤ 100000) (hbase : base ≤ w.heap.size) :
    Calls Tryz.prog 7 #[.pointer (some ⟨b, 0, none⟩), v] w (TextsPost base F b vS vX vs Ls v L w) := by
  obtain ⟨vT, vW, hB, hK⟩ := h.st
  obtain ⟨i0, hi, hz0, hz1, hz2⟩ := info_parts info_strs
  have HI0 : Hid (Tryz.prog.info? 23 = some i0 ∧ i0.zero = some (.slice none 0 0) ∧ i0.size = 1 ∧ i0.bytes = 24) := ⟨hi, hz0, hz1, hz2⟩
  clear hi hz0 hz1 hz2
  obtain ⟨ws, hwl, hW, hws, hwF⟩ := hK.copies
  obtain ⟨a1, cap1, rfl, -⟩ := row_form hK.rowT
  obtain ⟨a2, cap2, rfl, -⟩ := row_form hW
  obtain ⟨a3, cap3, rfl, -⟩ := row_form hv
  have c0 : w.cell? ⟨b, 0, none⟩ = some (.slice a1 vs.length cap1) := hB.cell 0
  have hbT := Lib.hid (row_not_struct hK.rowT hB (by decide))
  have hbW := Lib.hid (row_not_struct hW hB (by decide))
  have HB := Lib.hid hB
  have HK := Lib.hid hK
  have HW := Lib.hid hW
  have HV := Lib.hid hv
  have HNEW := Lib.hid hnew
  have H := Lib.hid h
  have hni : (vs.length : Int) < 250 := by omega
  have hbl := hB.lt
  have hm1 : vs.length + 1 ≤ maxLen := by unfold maxLen; omega
  have hm2 : ws.length + 1 ≤ maxLen := by unfold maxLen; omega
  have HWL := Lib.hid hwl
  have hwn : ws.length < 250 := by omega
  have HWS := Lib.hid hws
  have HWF := Lib.hid hwF
  clear hB hK hW hv h hws hwF hnew hwl
  go_enter Tryz.func7, Tryz.ntmps7
  go_wp2_with (at_builtin; refine wpList_append_keep rfl (.tmp 14) (.tmp 16) 27 rfl base 23 i0 (.slice none 0 0) 1 24 Tryz.underlying27 HI0.out.1 HI0.out.2.1 HI0.out.2.2.1 HI0.out.2.2.2 rfl (by decide) (.slice a1 vs.length cap1) vs.length vs rfl (HK.out.rowT.alloc _) (some ⟨w.heap.size, 0, none⟩) 1 1 [.slice a3 L.length cap3] rfl rfl (fun h => by cases h) (news_at rfl _ _) (fun u hu => by rw [List.mem_singleton.1 hu]; rfl) hm1 (by omega) (by simp; omega) ?_; intro vT' w2 hown2 hkp2 hgr2 hblk2; obtain ⟨g6, c6, rfl, -⟩ := row_some hown2 (by simp); have HO2 := Lib.hid hown2; have HG2 := Lib.hid hgr2; have HAT2 := Lib.hid (hblk2.imp id And.left); have hB2 := HB.out.kept ((hgr2.block b (by simp; omega) (fun e => hbT.out e.symm)).trans (Below.heap_alloc _ _ _ hbl)); have f20 := hB2.frozen 0; have c20 : w2.cell? ⟨b, 0, none⟩ = some (.slice a1 vs.length cap1) := hB2.cell 0; have HB2 := Lib.hid hB2; clear hown2 hkp2 hgr2 hblk2 hB2)
  have hB3 := HB2.out.set0 (x := .slice (some ⟨g6, 0, none⟩) (vs.length + 1) c6)
  have hsz2 : w.heap.size + 1 ≤ w2.heap.size := by have := HG2.out.size; simpa using this
  have hV3 : (w2.setCell ⟨b, 0, none⟩ (.slice (some ⟨g6, 0, none⟩) (vs.length + 1) c6)).ownsRow base 9 1 (.slice a3 L.length cap3) L.length (L.map .string) := by
    refine row_set (row_kept (HV.out.alloc (.cells #[.slice a3 L.length cap3] 23)) (fun g hg => HG2.out.block g ((HV.out.alloc _).lt g hg).2 (fun e => rows_apart HV.out HK.out.rowT (by decide) g hg e.symm))) ?_
    exact row_not_struct HV.out HB.out (by decide)
  have hW3 : (w2.setCell ⟨b, 0, none⟩ (.slice (some ⟨g6, 0, none⟩) (vs.length + 1) c6)).ownsRow base 23 1 (.slice a2 ws.length cap2) ws.length ws := by
    refine row_set (row_kept (HW.out.alloc (.cells #[.slice a3 L.length cap3] 23)) (fun g hg => HG2.out.block g ((HW.out.alloc _).lt g hg).2 (fun e => HK.out.apartTW g e.symm hg))) hbW.out
  have hsz3 : (w2.setCell ⟨b, 0, none⟩ (.slice (some ⟨g6, 0, none⟩) (vs.length + 1) c6)).heap.size = w2.heap.size := set_size _ _ _ _
  obtain ⟨w3, hw3⟩ : ∃ w3, w2.setCell ⟨b, 0, none⟩ (.slice (some ⟨g6, 0, none⟩) (vs.length + 1) c6) = w3 := ⟨_, rfl⟩
  rw [hw3] at hB3 hV3 hW3 hsz3
  have c31 : w3.cell? ⟨b, 1, none⟩ = some (.slice a2 ws.length cap2) := hB3.cell 1
  have hN3 := Lib.hid (namesIn_row hV3)
  have HB3 := Lib.hid hB3
  have HW3 := Lib.hid hW3
  have hsz3' : w2.heap.size ≤ w3.heap.size := by omega
  have cC := Lib.hid (fun (w' : World) (h : w'.heap = w3.heap) => copy_any (w := w') (.slice a3 L.length cap3) L (hN3.out.heap h) hL)
  replace hsz3 := Lib.hid hsz3
  clear hB3 hV3 hW3 c0 c20 f20
  rw [hw3]
  replace hw3 := Lib.hid hw3
  have tok1 : True := trivial
  go_region_law
    (first
      | (have _g := tok1; clear tok1; go_simp; go_at_call 18; refine (cC.out w3.drew rfl).mono ?_; rintro e w4 ⟨u, rfl, hu, hb4d⟩; have hb4 : Below w3.heap.size w3 w4 := Below.trans (Below.drew (Below.refl _ w3)) hb4d; have hW4 := row_on HW3.out hb4; have hB4 := HB3.out.below hb4; obtain ⟨a4, cap4, rfl, -⟩ := row_form hu; have hc4 : w4.cell? ⟨b, 1, none⟩ = some (.slice a2 ws.length cap2) := hB4.cell 1; have hl4 := hB4.lt; have hn4 : ¬ b = w4.heap.size := Nat.ne_of_lt hl4; have hn4' : ¬ w4.heap.size = b := fun e => Nat.ne_of_lt hl4 e.symm)
      | (have _g := hc4; refine step_append_any (wanted_none rfl) (.tmp 24) (.tmp 27) 27 rfl base 23 i0 (.slice none 0 0) 1 24 Tryz.underlying27 HI0.out.1 HI0.out.2.1 HI0.out.2.2.1 HI0.out.2.2.2 rfl (by decide) (.slice a2 ws.length cap2) ws.length ws rfl (hW4.alloc _) (some ⟨w4.heap.size, 0, none⟩) 1 1 [.slice a4 L.length cap4] rfl rfl (fun h => by cases h) (news_at rfl _ _) (fun u hu => by rw [List.mem_singleton.1 hu]; rfl) hm2 (by omega) (by have := hb4.size; simp; omega) ?_; intro vW' w5 hown5 hkp5 hgr5 hblk5; obtain ⟨g7, c7, rfl, -⟩ := row_some hown5 (by simp); have hB5 := hB4.kept ((hgr5.block b (by have := hB4.lt; simp; omega) (fun e => hbW.out e.symm)).trans (Below.heap_alloc _ _ _ hB4.lt)); have f51 := hB5.frozen 1; have hc5 : w5.cell? ⟨b, 1, none⟩ = some (.slice a2 ws.length cap2) := hB5.cell 1))
  all_goals
    have hb4' : Below (w2.setCell ⟨b, 0, none⟩ (.slice (some ⟨g6, 0, none⟩) (vs.length + 1) c6)).heap.size (w2.setCell ⟨b, 0, none⟩ (.slice (some ⟨g6, 0, none⟩) (vs.length + 1) c6)) w4 := by rw [hw3.out]; exact hb4
    have hu' : w4.ownsRow (w2.setCell ⟨b, 0, none⟩ (.slice (some ⟨g6, 0, none⟩) (vs.length + 1) c6)).heap.size 9 1 (.slice a4 L.length cap4) L.length (L.map .string) := by rw [hw3.out]; exact hu
    have hres := HK.out.add (i0 := 0) (i1 := 1) (X := strX L) (by decide) (by decide) (by decide) H.out.inb hbase HB.out HV.out HNEW.out HO2.out HG2.out HAT2.out hb4' hu' HWL.out HW.out HWS.out HWF.out hown5 hgr5 (hblk5.imp id And.left)
    have HRES := Lib.hid hres
    have HB5 := Lib.hid (show BookAt b (.slice (some ⟨g6, 0, none⟩) (vs.length + 1) c6) (.slice (some ⟨g7, 0, none⟩) (ws.length + 1) c7) vS vX (w5.setCell ⟨b, 1, none⟩ (.slice (some ⟨g7, 0, none⟩) (ws.length + 1) c7)) from hB5.set1)
    clear hb4' hu' hres hown5 hkp5 hgr5 hblk5 hB5 hc5 f51 hu hb4 hW4 hB4
    go_wp2_with fail
    go_end0
    obtain ⟨k1, k2, k3⟩ := HRES.out
    refine ⟨rfl, ⟨_, ⟨⟨_, _, HB5.out, by rw [List.map_append]; exact k1⟩, Or.inl H.out.inb, fun g hg => ?_⟩, fun g hg => ?_⟩, k2⟩
    · rcases hg with hg | hg | hg
      · exact ⟨(H.out.lt g hg).1, Nat.lt_of_lt_of_le (H.out.lt g hg).2 k2.size⟩
      · exact ⟨(HV.out.lt g hg).1, Nat.lt_of_lt_of_le (HV.out.lt g hg).2 k2.size⟩
      · exact ⟨by omega, by simpa [World.setCell] using hg.2⟩
    · rcases hg with hg | hg | hg
      · exact .inl hg
      · exact .inr (.inl hg)
      · exact .inr (.inr hg.1)
end Go.Proofs.YtbblgnbafecdmaaGreatDoor.bk
