/- (*bowdlerbook.Book).Apart of a book that keeps texts and sections: the walk. Printed by gen_scapart.py. -/
import Derived.Test.YtbblgnbafecdmaaGreatDoorScGrow
import Derived.Test.YtbblgnbafecdmaaGreatDoorBkGrow
import Derived.Test.YtbblgnbafecdmaaGreatDoorBkEmpty
namespace Go.Proofs.YtbblgnbafecdmaaGreatDoor.bk
open Go.RowKit Go.Lib

set_option maxRecDepth 100000 in
set_option maxHeartbeats 2000000 in
theorem marked_secs {base base' : Nat} {w : World} {vo : Value} {os : List Value} (ho : w.ownsRow base' 42 1 vo os.length os) (hr : ∀ (j : Nat) (u : Value), os[j]? = some u → ∃ N, N ≤ 100000 ∧ w.ownsRow base 52 4 u N ((smarks j 0 N).flatMap Sec.cells)) (hn : os.length ≤ 250) :
    Calls Tryz.prog 55 #[vo] w fun e w' => e = .returned (.bool true) ∧ Below w.heap.size w w' := by
  obtain ⟨a1, cap1, rfl, hc1⟩ := row_form ho
  have HO := Lib.hid ho
  have HR := Lib.hid hr
  have hni : (os.length : Int) ≤ 250 := by omega
  clear ho hr
  go_enter Tryz.func55, Tryz.ntmps55
  go_wp2_with fail
  go_loopw [3] (fun i wr => ∃ k : Nat, k ≤ os.length ∧ i = .int .i64 k ∧ Below w.heap.size w wr) (fun i _ => os.length - (RowKit.intOf i).toNat)
  case atStart => exact ⟨0, Nat.zero_le _, rfl, Below.refl _ _⟩
  case round =>
    obtain ⟨k, hk, rfl, hBw⟩ := hrel
    by_cases hlt : k < os.length
    · obtain ⟨g1, cc1, he1, -⟩ := row_some HO.out (by omega)
      cases he1
      have hg1 := (HO.out.lt g1 rfl).2
      have ck : wr.cell? ⟨g1, k, none⟩ = some os[k] := by
        rw [hBw.cell (p := ⟨g1, k, none⟩) hg1, HO.out.cellAt k (by omega), List.getElem?_eq_getElem hlt]
      obtain ⟨N, hN, hrow⟩ := HR.out k _ (List.getElem?_eq_getElem hlt)
      have hki : (k : Int) < os.length := by omega
      have hk0 : (0 : Int) ≤ (k : Int) := by omega
      have R0 := Lib.hid (row_on hrow hBw)
      clear hrow
      generalize os[k] = u at *
      obtain ⟨au, cu, rfl, hcu⟩ := row_form R0.out
      have HGL := Lib.hid (show g1 < wr.heap.size from Nat.lt_of_lt_of_le hg1 hBw.size)
      have HB0 := Lib.hid hBw
      have HSE := Lib.hid (fun (w2 : World) (v2 : Value) (hb : Below wr.heap.size wr w2) (h : w2.ownsRow wr.heap.size 52 4 v2 N ((smarks k 0 N).flatMap Sec.cells)) => same_secs (w := w2) (.slice au N cu) v2 (smarks k 0 N) (smarks k 0 N) (secsW_row (row_on R0.out hb)) (secsW_row h) (by rw [smarks_len]; exact hN) (by rw [smarks_len]; exact hN))
      clear hBw hg1
      go_wp2_with fail
      go_region_held3 (fun w' => w'.cell? ⟨g1, k, none⟩ = some (.slice au N cu)) (go_keep)
        (first
          | (go_at_call 73; refine (mark_secs k 0 N (by omega) (by omega)).mono ?_; rintro e w1 ⟨mv, rfl, hM, hb1d⟩; have hb1 : Below wr.heap.size wr w1 := Below.trans (Below.drew (Below.refl _ wr)) hb1d; have hc1 : w1.cell? ⟨g1, k, none⟩ = some (.slice au N cu) := (hb1.cell (p := ⟨g1, k, none⟩) HGL.out).trans ck)
          | (go_at_call 13; refine (HSE.out w1 mv hb1 hM).mono ?_; rw [sameS_refl]; rintro e w2 ⟨rfl, hb2⟩; have hc2 : w2.cell? ⟨g1, k, none⟩ = some (.slice au N cu) := (hb2.cell (p := ⟨g1, k, none⟩) (World.block_lt_of_cell? _ _ hc1)).trans hc1))
      have HBE := Lib.hid (HB0.out.trans ((hb1.trans (hb2.mono hb1.size)).mono HB0.out.size))
      clear hb1 hb2 hb1d hc1 hc2 ck hM
      go_wp2_with fail
      go_roundw
      case rel => exact ⟨k + 1, by omega, by go_num, HBE.out⟩
      case measure => simp only [RowKit.intOf]; omega
    · go_wp2_with fail
      go_ret
      exact ⟨rfl, hBw⟩
end Go.Proofs.YtbblgnbafecdmaaGreatDoor.bk
namespace Go.Proofs.YtbblgnbafecdmaaGreatDoor.bk
open Go.RowKit Go.Lib

set_option maxRecDepth 100000 in
set_option maxHeartbeats 2000000 in
theorem marked_texts {base base' : Nat} {w : World} {vo : Value} {os : List Value} (ho : w.ownsRow base' 23 1 vo os.length os) (hr : ∀ (j : Nat) (u : Value), os[j]? = some u → ∃ N, N ≤ 100000 ∧ w.ownsRow base 9 1 u N ((marks j 0 N).map .string)) (hn : os.length ≤ 250) :
    Calls Tryz.prog 49 #[vo] w fun e w' => e = .returned (.bool true) ∧ Below w.heap.size w w' := by
  obtain ⟨a1, cap1, rfl, hc1⟩ := row_form ho
  have HO := Lib.hid ho
  have HR := Lib.hid hr
  have hni : (os.length : Int) ≤ 250 := by omega
  clear ho hr
  go_enter Tryz.func49, Tryz.ntmps49
  go_wp2_with fail
  go_loopw [3] (fun i wr => ∃ k : Nat, k ≤ os.length ∧ i = .int .i64 k ∧ Below w.heap.size w wr) (fun i _ => os.length - (RowKit.intOf i).toNat)
  case atStart => exact ⟨0, Nat.zero_le _, rfl, Below.refl _ _⟩
  case round =>
    obtain ⟨k, hk, rfl, hBw⟩ := hrel
    by_cases hlt : k < os.length
    · obtain ⟨g1, cc1, he1, -⟩ := row_some HO.out (by omega)
      cases he1
      have hg1 := (HO.out.lt g1 rfl).2
      have ck : wr.cell? ⟨g1, k, none⟩ = some os[k] := by
        rw [hBw.cell (p := ⟨g1, k, none⟩) hg1, HO.out.cellAt k (by omega), List.getElem?_eq_getElem hlt]
      obtain ⟨N, hN, hrow⟩ := HR.out k _ (List.getElem?_eq_getElem hlt)
      have hki : (k : Int) < os.length := by omega
      have hk0 : (0 : Int) ≤ (k : Int) := by omega
      have R0 := Lib.hid (row_on hrow hBw)
      clear hrow
      generalize os[k] = u at *
      obtain ⟨au, cu, rfl, hcu⟩ := row_form R0.out
      have HGL := Lib.hid (show g1 < wr.heap.size from Nat.lt_of_lt_of_le hg1 hBw.size)
      have HB0 := Lib.hid hBw
      have HSE := Lib.hid (fun (w2 : World) (v2 : Value) (hb : Below wr.heap.size wr w2) (h : w2.ownsRow wr.heap.size 9 1 v2 N ((marks k 0 N).map .string)) => same_any (w := w2) (.slice au N cu) v2 (marks k 0 N) (marks k 0 N) (namesIn_row (by rw [marks_len]; exact row_on R0.out hb)) (namesIn_row (by rw [marks_len]; exact h)) (by rw [marks_len]; exact hN) (by rw [marks_len]; exact hN))
      clear hBw hg1
      go_wp2_with fail
      go_region_held3 (fun w' => w'.cell? ⟨g1, k, none⟩ = some (.slice au N cu)) (go_keep)
        (first
          | (go_at_call 68; refine (mark_any k 0 N (by omega) (by omega)).mono ?_; rintro e w1 ⟨mv, rfl, hM, hb1d⟩; have hb1 : Below wr.heap.size wr w1 := Below.trans (Below.drew (Below.refl _ wr)) hb1d; have hc1 : w1.cell? ⟨g1, k, none⟩ = some (.slice au N cu) := (hb1.cell (p := ⟨g1, k, none⟩) HGL.out).trans ck)
          | (go_at_call 10; refine (HSE.out w1 mv hb1 hM).mono ?_; rw [sameL_refl]; rintro e w2 ⟨rfl, hb2⟩; have hc2 : w2.cell? ⟨g1, k, none⟩ = some (.slice au N cu) := (hb2.cell (p := ⟨g1, k, none⟩) (World.block_lt_of_cell? _ _ hc1)).trans hc1))
      have HBE := Lib.hid (HB0.out.trans ((hb1.trans (hb2.mono hb1.size)).mono HB0.out.size))
      clear hb1 hb2 hb1d hc1 hc2 ck hM
      go_wp2_with fail
      go_roundw
      case rel => exact ⟨k + 1, by omega, by go_num, HBE.out⟩
      case measure => simp only [RowKit.intOf]; omega
    · go_wp2_with fail
      go_ret
      exact ⟨rfl, hBw⟩
end Go.Proofs.YtbblgnbafecdmaaGreatDoor.bk
namespace Go.Proofs.YtbblgnbafecdmaaGreatDoor.bk
open Go.RowKit Go.Lib

/-- a book that keeps texts (in blocks F) and sections (in blocks G) -/
structure Both (base : Nat) (F G : Nat → Prop) (b : Nat) (vT vW vS vX : Value) (vs us : List Value) (Xs Ys : List (Nat × List Value)) (w : World) : Prop where
  at_ : BookAt b vT vW vS vX w
  t : Vs 23 9 1 base F vT vs Xs w
  s : Vs 42 52 4 base G vS us Ys w
  dis : ∀ g, F g → ¬ G g
  lt : ∀ g, F g ∨ G g → base ≤ g ∧ g < w.heap.size
  ltb : base ≤ b
theorem Vs.part {T E : TypeId} {sz base b : Nat} {F : Nat → Prop} {vT : Value} {vs : List Value} {Xs : List (Nat × List Value)} {w : World} {vA vB vC vD : Value} (h : Vs T E sz base (fun g => F g ∨ g = b) vT vs Xs w) (hlen : vs.length = Xs.length) (hb : BookAt b vA vB vC vD w) (hT : T ≠ TBook) (hE : E ≠ TBook) : Vs T E sz base F vT vs Xs w :=
  ⟨h.len, h.rowT, h.rows, h.apart, fun g hg => (h.inT g hg).resolve_right (fun e => row_not_struct h.rowT hb hT (by rw [hg, e])), fun v hv g hg => (h.inV v hv g hg).resolve_right (fun e => by
    obtain ⟨i, hi, rfl⟩ := List.getElem_of_mem hv
    have hX : i < Xs.length := by omega
    exact row_not_struct (h.rows i _ _ (List.getElem?_eq_getElem hi) (List.getElem?_eq_getElem hX)) hb hE (by rw [hg, e]))⟩
theorem Vs.more {T E : TypeId} {sz base : Nat} {F F' : Nat → Prop} {vT : Value} {vs : List Value} {Xs : List (Nat × List Value)} {w : World} (h : Vs T E sz base F vT vs Xs w) (hF : ∀ g, F g → F' g) : Vs T E sz base F' vT vs Xs w :=
  ⟨h.len, h.rowT, h.rows, h.apart, fun g hg => hF g (h.inT g hg), fun v hv g hg => hF g (h.inV v hv g hg)⟩
section
variable {base : Nat} {F G : Nat → Prop} {b : Nat} {vT vW vS vX : Value} {vs us : List Value} {Xs Ys : List (Nat × List Value)} {w w' : World}
theorem Both.below (h : Both base F G b vT vW vS vX vs us Xs Ys w) (hb : Below w.heap.size w w') : Both base F G b vT vW vS vX vs us Xs Ys w' :=
  ⟨h.at_.below hb, h.t.below hb, h.s.below hb, h.dis, fun g hg => ⟨(h.lt g hg).1, Nat.lt_of_lt_of_le (h.lt g hg).2 hb.size⟩, h.ltb⟩
theorem Both.texts (h : Both base F G b vT vW vS vX vs us Xs Ys w) : BookVs base (fun g => F g ∨ g = b) b vT vW vS vX vs Xs w :=
  ⟨h.at_, h.t.more (fun _ h => .inl h), .inr rfl, fun g hg => by
    rcases hg with hg | rfl
    · exact h.lt g (.inl hg)
    · exact ⟨h.ltb, h.at_.lt⟩⟩
theorem Both.secs (h : Both base F G b vT vW vS vX vs us Xs Ys w) : BookVc base (fun g => G g ∨ g = b) b vS vX vT vW us Ys w :=
  ⟨h.at_, h.s.more (fun _ h => .inl h), .inr rfl, fun g hg => by
    rcases hg with hg | rfl
    · exact h.lt g (.inr hg)
    · exact ⟨h.ltb, h.at_.lt⟩⟩
/-- texts have been written -/
theorem Both.ofTexts (h : Both base F G b vT vW vS vX vs us Xs Ys w) (hGb : ¬ G b) {Xs' : List (Nat × List Value)} (hv : BookVs base (fun g => F g ∨ g = b) b vT vW vS vX vs Xs' w') (hf : Frame (fun g => F g ∨ g = b) w w') : Both base F G b vT vW vS vX vs us Xs' Ys w' :=
  ⟨hv.at_, hv.vs_.part hv.vs_.len hv.at_ (by decide) (by decide), h.s.frame hf (fun g hg hF => by
    rcases hF with hF | rfl
    · exact h.dis g hF hg
    · exact hGb hg), h.dis, fun g hg => ⟨(h.lt g hg).1, Nat.lt_of_lt_of_le (h.lt g hg).2 hf.size⟩, h.ltb⟩
theorem Both.ofSecs (h : Both base F G b vT vW vS vX vs us Xs Ys w) (hFb : ¬ F b) {Ys' : List (Nat × List Value)} (hv : BookVc base (fun g => G g ∨ g = b) b vS vX vT vW us Ys' w') (hf : Frame (fun g => G g ∨ g = b) w w') : Both base F G b vT vW vS vX vs us Xs Ys' w' :=
  ⟨hv.at_, h.t.frame hf (fun g hg hF => by
    rcases hF with hF | rfl
    · exact h.dis g hg hF
    · exact hFb hg), hv.vs_.part hv.vs_.len hv.at_ (by decide) (by decide), h.dis, fun g hg => ⟨(h.lt g hg).1, Nat.lt_of_lt_of_le (h.lt g hg).2 hf.size⟩, h.ltb⟩
end
def All3 (F G : Nat → Prop) (b g : Nat) : Prop := F g ∨ G g ∨ g = b
theorem to3t {F G : Nat → Prop} {b : Nat} {w w' : World} (hf : Frame (fun g => F g ∨ g = b) w w') : Frame (All3 F G b) w w' := hf.weaken (fun g hg => by
  rcases hg with hg | hg
  · exact .inl hg
  · exact .inr (.inr hg))
theorem to3s {F G : Nat → Prop} {b : Nat} {w w' : World} (hf : Frame (fun g => G g ∨ g = b) w w') : Frame (All3 F G b) w w' := hf.weaken (fun _ hg => .inr hg)
theorem rows_on {base : Nat} {os : List Value} {w w' : World} (hr : ∀ (j : Nat) (u : Value), os[j]? = some u → ∃ N, N ≤ 100000 ∧ w.ownsRow base 9 1 u N ((marks j 0 N).map .string)) (hb : Below w.heap.size w w') : ∀ (j : Nat) (u : Value), os[j]? = some u → ∃ N, N ≤ 100000 ∧ w'.ownsRow base 9 1 u N ((marks j 0 N).map .string) := fun j u hu => by
  obtain ⟨N, hN, h⟩ := hr j u hu
  exact ⟨N, hN, row_on h hb⟩
theorem rows_ons {base : Nat} {os : List Value} {w w' : World} (hr : ∀ (j : Nat) (u : Value), os[j]? = some u → ∃ N, N ≤ 100000 ∧ w.ownsRow base 52 4 u N ((smarks j 0 N).flatMap Sec.cells)) (hb : Below w.heap.size w w') : ∀ (j : Nat) (u : Value), os[j]? = some u → ∃ N, N ≤ 100000 ∧ w'.ownsRow base 52 4 u N ((smarks j 0 N).flatMap Sec.cells) := fun j u hu => by
  obtain ⟨N, hN, h⟩ := hr j u hu
  exact ⟨N, hN, row_on h hb⟩
/-- grown texts stay while sections grow -/
theorem rows_past {base : Nat} {F G : Nat → Prop} {b B : Nat} {os : List Value} {w w' : World} (hr : ∀ (j : Nat) (u : Value), os[j]? = some u → ∃ N, N ≤ 100000 ∧ w.ownsRow base 9 1 u N ((marks j 0 N).map .string)) (hat : ∀ (j : Nat) (u : Value) (g : Nat), os[j]? = some u → u.ownBlock = some g → (F g ∨ g = b) ∨ B ≤ g) (hd : ∀ g, F g → ¬ G g) (hG : ∀ g, G g → g < B) {vA vB vC vD : Value} (hb : BookAt b vA vB vC vD w) (hf : Frame (fun g => G g ∨ g = b) w w') : ∀ (j : Nat) (u : Value), os[j]? = some u → ∃ N, N ≤ 100000 ∧ w'.ownsRow base 9 1 u N ((marks j 0 N).map .string) := fun j u hu => by
  obtain ⟨N, hN, h⟩ := hr j u hu
  refine ⟨N, hN, hf.row h (fun g hg hGg => ?_)⟩
  rcases hGg with hGg | rfl
  · rcases hat j u g hu hg with (e | rfl) | e
    · exact hd g e hGg
    · exact row_not_struct h hb (by decide) hg
    · have := hG g hGg; omega
  · exact row_not_struct h hb (by decide) hg
theorem marked_rows {T : TypeId} {base : Nat} {F : Nat → Prop} {vT : Value} {vs : List Value} {Ls : List (List ByteArray)} {w : World} (h : Vs T 9 1 base F vT vs (marked vs.length Ls) w) (hlen : Ls.length = vs.length) (hL : ∀ L ∈ Ls, L.length ≤ 90000) : ∀ (j : Nat) (u : Value), vs[j]? = some u → ∃ N, N ≤ 100000 ∧ w.ownsRow base 9 1 u N ((marks j 0 N).map .string) := fun j u hu => by
  have hj : j < vs.length := (List.getElem?_eq_some_iff.1 hu).1
  have hjL : j < Ls.length := by omega
  have hm := marked_at vs.length Ls j hjL
  rw [if_pos hj] at hm
  refine ⟨Ls[j].length, Nat.le_trans (hL _ (List.getElem_mem _)) (by omega), ?_⟩
  have h1 := h.rows j u _ hu hm
  unfold strX at h1
  rw [marks_len] at h1
  exact h1
theorem smarked_rows {T : TypeId} {base : Nat} {F : Nat → Prop} {vT : Value} {vs : List Value} {Ls : List (List Sec)} {w : World} (h : Vs T 52 4 base F vT vs (smarked vs.length Ls) w) (hlen : Ls.length = vs.length) (hL : ∀ L ∈ Ls, L.length ≤ 90000) : ∀ (j : Nat) (u : Value), vs[j]? = some u → ∃ N, N ≤ 100000 ∧ w.ownsRow base 52 4 u N ((smarks j 0 N).flatMap Sec.cells) := fun j u hu => by
  have hj : j < vs.length := (List.getElem?_eq_some_iff.1 hu).1
  have hjL : j < Ls.length := by omega
  have hm := smarked_at vs.length Ls j hjL
  rw [if_pos hj] at hm
  refine ⟨Ls[j].length, Nat.le_trans (hL _ (List.getElem_mem _)) (by omega), ?_⟩
  have h1 := h.rows j u _ hu hm
  unfold secX at h1
  rw [smarks_len] at h1
  exact h1

set_option maxRecDepth 100000 in
set_option maxHeartbeats 8000000 in
theorem apart_both {base : Nat} {F G : Nat → Prop} {b : Nat} {vT vW vS vX : Value} {vs us : List Value} {Ls : List (List ByteArray)} {Ms : List (List Sec)} {w : World}
    (hF : BookSt base (fun g => F g ∨ g = b) b vS vX vs Ls w) (hG : BookSc base (fun g => G g ∨ g = b) b vT vW us Ms w) (h : Both base F G b vT vW vS vX vs us (Ls.map strX) (Ms.map secX) w) (hFb : ¬ F b) (hGb : ¬ G b)
    (hn : vs.length ≤ 250) (hm : us.length ≤ 250) (hL : ∀ L ∈ Ls, L.length ≤ 90000) (hM : ∀ L ∈ Ms, L.length ≤ 90000) (hbw : base ≤ w.heap.size) :
    Calls Tryz.prog 15 #[.pointer (some ⟨b, 0, none⟩)] w fun e w' => e = .returned (.bool true) ∧ Frame (All3 F G b) w w' := by
  have HL := Lib.hid hL
  have HM0 := Lib.hid hM
  have HLEN := Lib.hid (show Ls.length = vs.length by have := h.t.len; rw [List.length_map] at this; exact this.symm)
  have HMEN := Lib.hid (show Ms.length = us.length by have := h.s.len; rw [List.length_map] at this; exact this.symm)
  have hGlt : ∀ g, G g → g < w.heap.size := fun g hg => (h.lt g (.inr hg)).2
  have HGLT := Lib.hid hGlt
  have hdis := h.dis
  have HDIS := Lib.hid hdis
  have cT0 := Lib.hid (fun (w' : World) (hb : Below w.heap.size w w') => still_texts (hF.below hb) hn (fun L hL' => Nat.le_trans (hL L hL') (by omega)))
  have cS0 := Lib.hid (fun (w' : World) (hb : Below w.heap.size w w') => still_secs (hG.below hb) hm (fun L hL' => Nat.le_trans (hM L hL') (by omega)))
  have HV0 := Lib.hid h
  have HB0 := Lib.hid (Below.refl w.heap.size w)
  clear h hF hG hL hM hGlt hdis
  go_enter Tryz.func15, Tryz.ntmps15
  go_wp2_with fail
  refine (cT0.out w HB0.out).mono ?_
  rintro e w1 ⟨rfl, hb1⟩
  have HV1 := Lib.hid (HV0.out.below hb1)
  have HB1 := Lib.hid (HB0.out.trans (hb1.mono HB0.out.size))
  clear hb1 HV0 HB0
  go_wp2_with fail
  refine (still_Ints (HV1.out.at_.cell 2)).mono ?_
  rintro e w2 ⟨rfl, hb2⟩
  have HV2 := Lib.hid (HV1.out.below hb2)
  have HB2 := Lib.hid (HB1.out.trans (hb2.mono HB1.out.size))
  clear hb2 HV1 HB1
  go_wp2_with fail
  refine (still_Blocks (HV2.out.at_.cell 4)).mono ?_
  rintro e w3 ⟨rfl, hb3⟩
  have HV3 := Lib.hid (HV2.out.below hb3)
  have HB3 := Lib.hid (HB2.out.trans (hb3.mono HB2.out.size))
  clear hb3 HV2 HB2
  go_wp2_with fail
  refine (still_Inls (HV3.out.at_.cell 6)).mono ?_
  rintro e w4 ⟨rfl, hb4⟩
  have HV4 := Lib.hid (HV3.out.below hb4)
  have HB4 := Lib.hid (HB3.out.trans (hb4.mono HB3.out.size))
  clear hb4 HV3 HB3
  go_wp2_with fail
  refine (still_Parts (HV4.out.at_.cell 8)).mono ?_
  rintro e w5 ⟨rfl, hb5⟩
  have HV5 := Lib.hid (HV4.out.below hb5)
  have HB5 := Lib.hid (HB4.out.trans (hb5.mono HB4.out.size))
  clear hb5 HV4 HB4
  go_wp2_with fail
  refine (still_Defs (HV5.out.at_.cell 10)).mono ?_
  rintro e w6 ⟨rfl, hb6⟩
  have HV6 := Lib.hid (HV5.out.below hb6)
  have HB6 := Lib.hid (HB5.out.trans (hb6.mono HB5.out.size))
  clear hb6 HV5 HB5
  go_wp2_with fail
  refine (cS0.out _ HB6.out).mono ?_
  rintro e w7 ⟨rfl, hb7⟩
  have HV7 := Lib.hid (HV6.out.below hb7)
  have HB7 := Lib.hid (HB6.out.trans (hb7.mono HB6.out.size))
  clear hb7 HV6 HB6
  go_wp2_with fail
  refine (still_Diags (HV7.out.at_.cell 14)).mono ?_
  rintro e w8 ⟨rfl, hb8⟩
  have HV8 := Lib.hid (HV7.out.below hb8)
  have HB8 := Lib.hid (HB7.out.trans (hb8.mono HB7.out.size))
  clear hb8 HV7 HB7
  have HF8 := Lib.hid (Frame.of_below (F := All3 F G b) HB8.out)
  clear HB8 cT0 cS0
  go_wp2_with fail
  refine (put_Parts (HV8.out.at_.cell 8)).mono ?_
  rintro e w9 ⟨rfl, hb9⟩
  have HV9 := Lib.hid (HV8.out.below hb9)
  have HF9 := Lib.hid (HF8.out.trans (Frame.of_below (F := All3 F G b) hb9) (fun _ h => .inl h))
  clear hb9 HV8 HF8
  go_wp2_with fail
  refine (put_texts HV9.out.texts hn HL.out).mono ?_
  rintro e w10 ⟨rfl, hv10, hf10⟩
  have HV10 := Lib.hid (HV9.out.ofTexts hGb hv10 hf10)
  have HF10 := Lib.hid (HF9.out.trans (to3t (G := G) hf10) (fun _ h => .inl h))
  clear hv10 hf10 HV9 HF9
  go_wp2_with fail
  refine (put_Ints (HV10.out.at_.cell 2)).mono ?_
  rintro e w11 ⟨rfl, hb11⟩
  have HV11 := Lib.hid (HV10.out.below hb11)
  have HF11 := Lib.hid (HF10.out.trans (Frame.of_below (F := All3 F G b) hb11) (fun _ h => .inl h))
  clear hb11 HV10 HF10
  go_wp2_with fail
  refine (put_Blocks (HV11.out.at_.cell 4)).mono ?_
  rintro e w12 ⟨rfl, hb12⟩
  have HV12 := Lib.hid (HV11.out.below hb12)
  have HF12 := Lib.hid (HF11.out.trans (Frame.of_below (F := All3 F G b) hb12) (fun _ h => .inl h))
  clear hb12 HV11 HF11
  go_wp2_with fail
  refine (put_Inls (HV12.out.at_.cell 6)).mono ?_
  rintro e w13 ⟨rfl, hb13⟩
  have HV13 := Lib.hid (HV12.out.below hb13)
  have HF13 := Lib.hid (HF12.out.trans (Frame.of_below (F := All3 F G b) hb13) (fun _ h => .inl h))
  clear hb13 HV12 HF12
  go_wp2_with fail
  refine (put_Defs (HV13.out.at_.cell 10)).mono ?_
  rintro e w14 ⟨rfl, hb14⟩
  have HV14 := Lib.hid (HV13.out.below hb14)
  have HF14 := Lib.hid (HF13.out.trans (Frame.of_below (F := All3 F G b) hb14) (fun _ h => .inl h))
  clear hb14 HV13 HF13
  go_wp2_with fail
  refine (put_secs HV14.out.secs hm HM0.out).mono ?_
  rintro e w15 ⟨rfl, hv15, hf15⟩
  have HV15 := Lib.hid (HV14.out.ofSecs hFb hv15 hf15)
  have HF15 := Lib.hid (HF14.out.trans (to3s (F := F) hf15) (fun _ h => .inl h))
  clear hv15 hf15 HV14 HF14
  go_wp2_with fail
  refine (put_Diags (HV15.out.at_.cell 14)).mono ?_
  rintro e w16 ⟨rfl, hb16⟩
  have HV16 := Lib.hid (HV15.out.below hb16)
  have HF16 := Lib.hid (HF15.out.trans (Frame.of_below (F := All3 F G b) hb16) (fun _ h => .inl h))
  clear hb16 HV15 HF15
  go_wp2_with fail
  have hbw16 : base ≤ w16.heap.size := Nat.le_trans hbw HF16.out.size
  refine (grow_texts HV16.out.texts HLEN.out hn HL.out hbw16).mono ?_
  rintro e w17 ⟨vo, os, rfl, ho, hol, hor, hv17, hf17, hat⟩
  have HV17 := Lib.hid (HV16.out.ofTexts hGb hv17 hf17)
  have HO17 := Lib.hid ho
  have HOR17 := Lib.hid hor
  have HAT := Lib.hid (show ∀ (j : Nat) (u : Value) (g : Nat), os[j]? = some u → u.ownBlock = some g → (F g ∨ g = b) ∨ w.heap.size ≤ g from fun j u _ h1 h2 => (hat j u _ h1 h2).imp id (fun h => Nat.le_trans HF16.out.size h))
  have HOB := Lib.hid (show w.heap.size ≤ w16.heap.size from HF16.out.size)
  have HF17 := Lib.hid (HF16.out.trans (to3t (G := G) hf17) (fun _ h => .inl h))
  have hon : os.length ≤ 250 := by omega
  replace hol := Lib.hid hol
  clear hv17 hf17 HV16 HF16 ho hor hat hbw16
  go_wp2_with fail
  refine (grow_Ints (HV17.out.at_.cell 2)).mono ?_
  rintro e w18 ⟨rfl, hb18⟩
  have HV18 := Lib.hid (HV17.out.below hb18)
  have HF18 := Lib.hid (HF17.out.trans (Frame.of_below (F := All3 F G b) hb18) (fun _ h => .inl h))
  have HO18 := Lib.hid (row_on HO17.out hb18)
  have HOR18 := Lib.hid (rows_on HOR17.out hb18)
  clear hb18 HV17 HF17 HO17 HOR17
  go_wp2_with fail
  refine (grow_Blocks (HV18.out.at_.cell 4)).mono ?_
  rintro e w19 ⟨rfl, hb19⟩
  have HV19 := Lib.hid (HV18.out.below hb19)
  have HF19 := Lib.hid (HF18.out.trans (Frame.of_below (F := All3 F G b) hb19) (fun _ h => .inl h))
  have HO19 := Lib.hid (row_on HO18.out hb19)
  have HOR19 := Lib.hid (rows_on HOR18.out hb19)
  clear hb19 HV18 HF18 HO18 HOR18
  go_wp2_with fail
  refine (grow_Inls (HV19.out.at_.cell 6)).mono ?_
  rintro e w20 ⟨rfl, hb20⟩
  have HV20 := Lib.hid (HV19.out.below hb20)
  have HF20 := Lib.hid (HF19.out.trans (Frame.of_below (F := All3 F G b) hb20) (fun _ h => .inl h))
  have HO20 := Lib.hid (row_on HO19.out hb20)
  have HOR20 := Lib.hid (rows_on HOR19.out hb20)
  clear hb20 HV19 HF19 HO19 HOR19
  go_wp2_with fail
  refine (grow_Parts (HV20.out.at_.cell 8)).mono ?_
  rintro e w21 ⟨rfl, hb21⟩
  have HV21 := Lib.hid (HV20.out.below hb21)
  have HF21 := Lib.hid (HF20.out.trans (Frame.of_below (F := All3 F G b) hb21) (fun _ h => .inl h))
  have HO21 := Lib.hid (row_on HO20.out hb21)
  have HOR21 := Lib.hid (rows_on HOR20.out hb21)
  clear hb21 HV20 HF20 HO20 HOR20
  go_wp2_with fail
  refine (grow_Defs (HV21.out.at_.cell 10)).mono ?_
  rintro e w22 ⟨rfl, hb22⟩
  have HV22 := Lib.hid (HV21.out.below hb22)
  have HF22 := Lib.hid (HF21.out.trans (Frame.of_below (F := All3 F G b) hb22) (fun _ h => .inl h))
  have HO22 := Lib.hid (row_on HO21.out hb22)
  have HOR22 := Lib.hid (rows_on HOR21.out hb22)
  clear hb22 HV21 HF21 HO21 HOR21
  go_wp2_with fail
  have hbw22 : base ≤ w22.heap.size := Nat.le_trans hbw HF22.out.size
  refine (grow_secs HV22.out.secs HMEN.out hm HM0.out hbw22).mono ?_
  rintro e w23 ⟨vp, ps, rfl, hp, hpl, hpr, hv23, hf23, -⟩
  have HV23 := Lib.hid (HV22.out.ofSecs hFb hv23 hf23)
  have HOR23 := Lib.hid (rows_past HOR22.out HAT.out HDIS.out HGLT.out HV22.out.at_ hf23)
  have HO23 := Lib.hid (hf23.row HO22.out (fun g hg hGg => by
    have h1 := (HO22.out.lt g hg).1
    have h2 := HOB.out
    rcases hGg with hGg | e
    · have := HGLT.out g hGg; omega
    · rw [e] at hg; exact row_not_struct HO22.out HV22.out.at_ (by decide) hg))
  have HF23 := Lib.hid (HF22.out.trans (to3s (F := F) hf23) (fun _ h => .inl h))
  have HP23 := Lib.hid hp
  have HPR23 := Lib.hid hpr
  have hpn : ps.length ≤ 250 := by omega
  replace hpl := Lib.hid hpl
  clear hv23 hf23 HV22 HF22 hp hpr HOR22 HO22 HAT HOB HDIS HGLT hbw22
  go_wp2_with fail
  refine (grow_Diags (HV23.out.at_.cell 14)).mono ?_
  rintro e w24 ⟨rfl, hb24⟩
  have HV24 := Lib.hid (HV23.out.below hb24)
  have HF24 := Lib.hid (HF23.out.trans (Frame.of_below (F := All3 F G b) hb24) (fun _ h => .inl h))
  have HO24 := Lib.hid (row_on HO23.out hb24)
  have HOR24 := Lib.hid (rows_on HOR23.out hb24)
  have HP24 := Lib.hid (row_on HP23.out hb24)
  have HPR24 := Lib.hid (rows_ons HPR23.out hb24)
  clear hb24 HV23 HF23 HO23 HOR23 HP23 HPR23
  go_wp2_with fail
  refine (marked_texts HO24.out HOR24.out hon).mono ?_
  rintro e w25 ⟨rfl, hb25⟩
  have HV25 := Lib.hid (HV24.out.below hb25)
  have HF25 := Lib.hid (HF24.out.trans (Frame.of_below (F := All3 F G b) hb25) (fun _ h => .inl h))
  have HO25 := Lib.hid (row_on HO24.out hb25)
  have HOR25 := Lib.hid (rows_on HOR24.out hb25)
  have HP25 := Lib.hid (row_on HP24.out hb25)
  have HPR25 := Lib.hid (rows_ons HPR24.out hb25)
  clear hb25 HV24 HF24 HO24 HOR24 HP24 HPR24
  have cT25 : w25.cell? ⟨b, 0, none⟩ = some vT := HV25.out.at_.cell 0
  have HM := Lib.hid (marked_rows HV25.out.t HLEN.out HL.out)
  go_wp2_with fail
  refine (marked_texts HV25.out.t.rowT HM.out hn).mono ?_
  rintro e w26 ⟨rfl, hb26⟩
  have HV26 := Lib.hid (HV25.out.below hb26)
  have HF26 := Lib.hid (HF25.out.trans (Frame.of_below (F := All3 F G b) hb26) (fun _ h => .inl h))
  have HO26 := Lib.hid (row_on HO25.out hb26)
  have HOR26 := Lib.hid (rows_on HOR25.out hb26)
  have HP26 := Lib.hid (row_on HP25.out hb26)
  have HPR26 := Lib.hid (rows_ons HPR25.out hb26)
  clear hb26 HV25 HF25 HO25 HOR25 HP25 HPR25
  clear cT25 HM
  go_wp2_with fail
  refine (marked_Ints).mono ?_
  rintro e w27 ⟨rfl, hb27⟩
  have HV27 := Lib.hid (HV26.out.below hb27)
  have HF27 := Lib.hid (HF26.out.trans (Frame.of_below (F := All3 F G b) hb27) (fun _ h => .inl h))
  have HO27 := Lib.hid (row_on HO26.out hb27)
  have HOR27 := Lib.hid (rows_on HOR26.out hb27)
  have HP27 := Lib.hid (row_on HP26.out hb27)
  have HPR27 := Lib.hid (rows_ons HPR26.out hb27)
  clear hb27 HV26 HF26 HO26 HOR26 HP26 HPR26
  have cInts : w27.cell? ⟨b, 2, none⟩ = some nilS := HV27.out.at_.cell 2
  go_wp2_with fail
  refine (marked_Ints).mono ?_
  rintro e w28 ⟨rfl, hb28⟩
  have HV28 := Lib.hid (HV27.out.below hb28)
  have HF28 := Lib.hid (HF27.out.trans (Frame.of_below (F := All3 F G b) hb28) (fun _ h => .inl h))
  have HO28 := Lib.hid (row_on HO27.out hb28)
  have HOR28 := Lib.hid (rows_on HOR27.out hb28)
  have HP28 := Lib.hid (row_on HP27.out hb28)
  have HPR28 := Lib.hid (rows_ons HPR27.out hb28)
  clear hb28 HV27 HF27 HO27 HOR27 HP27 HPR27
  clear cInts
  go_wp2_with fail
  refine (marked_Blocks).mono ?_
  rintro e w29 ⟨rfl, hb29⟩
  have HV29 := Lib.hid (HV28.out.below hb29)
  have HF29 := Lib.hid (HF28.out.trans (Frame.of_below (F := All3 F G b) hb29) (fun _ h => .inl h))
  have HO29 := Lib.hid (row_on HO28.out hb29)
  have HOR29 := Lib.hid (rows_on HOR28.out hb29)
  have HP29 := Lib.hid (row_on HP28.out hb29)
  have HPR29 := Lib.hid (rows_ons HPR28.out hb29)
  clear hb29 HV28 HF28 HO28 HOR28 HP28 HPR28
  have cBlocks : w29.cell? ⟨b, 4, none⟩ = some nilS := HV29.out.at_.cell 4
  go_wp2_with fail
  refine (marked_Blocks).mono ?_
  rintro e w30 ⟨rfl, hb30⟩
  have HV30 := Lib.hid (HV29.out.below hb30)
  have HF30 := Lib.hid (HF29.out.trans (Frame.of_below (F := All3 F G b) hb30) (fun _ h => .inl h))
  have HO30 := Lib.hid (row_on HO29.out hb30)
  have HOR30 := Lib.hid (rows_on HOR29.out hb30)
  have HP30 := Lib.hid (row_on HP29.out hb30)
  have HPR30 := Lib.hid (rows_ons HPR29.out hb30)
  clear hb30 HV29 HF29 HO29 HOR29 HP29 HPR29
  clear cBlocks
  go_wp2_with fail
  refine (marked_Inls).mono ?_
  rintro e w31 ⟨rfl, hb31⟩
  have HV31 := Lib.hid (HV30.out.below hb31)
  have HF31 := Lib.hid (HF30.out.trans (Frame.of_below (F := All3 F G b) hb31) (fun _ h => .inl h))
  have HO31 := Lib.hid (row_on HO30.out hb31)
  have HOR31 := Lib.hid (rows_on HOR30.out hb31)
  have HP31 := Lib.hid (row_on HP30.out hb31)
  have HPR31 := Lib.hid (rows_ons HPR30.out hb31)
  clear hb31 HV30 HF30 HO30 HOR30 HP30 HPR30
  have cInls : w31.cell? ⟨b, 6, none⟩ = some nilS := HV31.out.at_.cell 6
  go_wp2_with fail
  refine (marked_Inls).mono ?_
  rintro e w32 ⟨rfl, hb32⟩
  have HV32 := Lib.hid (HV31.out.below hb32)
  have HF32 := Lib.hid (HF31.out.trans (Frame.of_below (F := All3 F G b) hb32) (fun _ h => .inl h))
  have HO32 := Lib.hid (row_on HO31.out hb32)
  have HOR32 := Lib.hid (rows_on HOR31.out hb32)
  have HP32 := Lib.hid (row_on HP31.out hb32)
  have HPR32 := Lib.hid (rows_ons HPR31.out hb32)
  clear hb32 HV31 HF31 HO31 HOR31 HP31 HPR31
  clear cInls
  go_wp2_with fail
  refine (marked_Parts).mono ?_
  rintro e w33 ⟨rfl, hb33⟩
  have HV33 := Lib.hid (HV32.out.below hb33)
  have HF33 := Lib.hid (HF32.out.trans (Frame.of_below (F := All3 F G b) hb33) (fun _ h => .inl h))
  have HO33 := Lib.hid (row_on HO32.out hb33)
  have HOR33 := Lib.hid (rows_on HOR32.out hb33)
  have HP33 := Lib.hid (row_on HP32.out hb33)
  have HPR33 := Lib.hid (rows_ons HPR32.out hb33)
  clear hb33 HV32 HF32 HO32 HOR32 HP32 HPR32
  have cParts : w33.cell? ⟨b, 8, none⟩ = some nilS := HV33.out.at_.cell 8
  go_wp2_with fail
  refine (marked_Parts).mono ?_
  rintro e w34 ⟨rfl, hb34⟩
  have HV34 := Lib.hid (HV33.out.below hb34)
  have HF34 := Lib.hid (HF33.out.trans (Frame.of_below (F := All3 F G b) hb34) (fun _ h => .inl h))
  have HO34 := Lib.hid (row_on HO33.out hb34)
  have HOR34 := Lib.hid (rows_on HOR33.out hb34)
  have HP34 := Lib.hid (row_on HP33.out hb34)
  have HPR34 := Lib.hid (rows_ons HPR33.out hb34)
  clear hb34 HV33 HF33 HO33 HOR33 HP33 HPR33
  clear cParts
  go_wp2_with fail
  refine (marked_Defs).mono ?_
  rintro e w35 ⟨rfl, hb35⟩
  have HV35 := Lib.hid (HV34.out.below hb35)
  have HF35 := Lib.hid (HF34.out.trans (Frame.of_below (F := All3 F G b) hb35) (fun _ h => .inl h))
  have HO35 := Lib.hid (row_on HO34.out hb35)
  have HOR35 := Lib.hid (rows_on HOR34.out hb35)
  have HP35 := Lib.hid (row_on HP34.out hb35)
  have HPR35 := Lib.hid (rows_ons HPR34.out hb35)
  clear hb35 HV34 HF34 HO34 HOR34 HP34 HPR34
  have cDefs : w35.cell? ⟨b, 10, none⟩ = some nilS := HV35.out.at_.cell 10
  go_wp2_with fail
  refine (marked_Defs).mono ?_
  rintro e w36 ⟨rfl, hb36⟩
  have HV36 := Lib.hid (HV35.out.below hb36)
  have HF36 := Lib.hid (HF35.out.trans (Frame.of_below (F := All3 F G b) hb36) (fun _ h => .inl h))
  have HO36 := Lib.hid (row_on HO35.out hb36)
  have HOR36 := Lib.hid (rows_on HOR35.out hb36)
  have HP36 := Lib.hid (row_on HP35.out hb36)
  have HPR36 := Lib.hid (rows_ons HPR35.out hb36)
  clear hb36 HV35 HF35 HO35 HOR35 HP35 HPR35
  clear cDefs
  go_wp2_with fail
  refine (marked_secs HP36.out HPR36.out hpn).mono ?_
  rintro e w37 ⟨rfl, hb37⟩
  have HV37 := Lib.hid (HV36.out.below hb37)
  have HF37 := Lib.hid (HF36.out.trans (Frame.of_below (F := All3 F G b) hb37) (fun _ h => .inl h))
  have HO37 := Lib.hid (row_on HO36.out hb37)
  have HOR37 := Lib.hid (rows_on HOR36.out hb37)
  have HP37 := Lib.hid (row_on HP36.out hb37)
  have HPR37 := Lib.hid (rows_ons HPR36.out hb37)
  clear hb37 HV36 HF36 HO36 HOR36 HP36 HPR36
  have cS37 : w37.cell? ⟨b, 12, none⟩ = some vS := HV37.out.at_.cell 12
  have HMS := Lib.hid (smarked_rows HV37.out.s HMEN.out HM0.out)
  go_wp2_with fail
  refine (marked_secs HV37.out.s.rowT HMS.out hm).mono ?_
  rintro e w38 ⟨rfl, hb38⟩
  have HV38 := Lib.hid (HV37.out.below hb38)
  have HF38 := Lib.hid (HF37.out.trans (Frame.of_below (F := All3 F G b) hb38) (fun _ h => .inl h))
  have HO38 := Lib.hid (row_on HO37.out hb38)
  have HOR38 := Lib.hid (rows_on HOR37.out hb38)
  have HP38 := Lib.hid (row_on HP37.out hb38)
  have HPR38 := Lib.hid (rows_ons HPR37.out hb38)
  clear hb38 HV37 HF37 HO37 HOR37 HP37 HPR37
  clear cS37 HMS
  go_wp2_with fail
  refine (marked_Diags).mono ?_
  rintro e w39 ⟨rfl, hb39⟩
  have HV39 := Lib.hid (HV38.out.below hb39)
  have HF39 := Lib.hid (HF38.out.trans (Frame.of_below (F := All3 F G b) hb39) (fun _ h => .inl h))
  have HO39 := Lib.hid (row_on HO38.out hb39)
  have HOR39 := Lib.hid (rows_on HOR38.out hb39)
  have HP39 := Lib.hid (row_on HP38.out hb39)
  have HPR39 := Lib.hid (rows_ons HPR38.out hb39)
  clear hb39 HV38 HF38 HO38 HOR38 HP38 HPR38
  have cDiags : w39.cell? ⟨b, 14, none⟩ = some nilS := HV39.out.at_.cell 14
  go_wp2_with fail
  refine (marked_Diags).mono ?_
  rintro e w40 ⟨rfl, hb40⟩
  have HV40 := Lib.hid (HV39.out.below hb40)
  have HF40 := Lib.hid (HF39.out.trans (Frame.of_below (F := All3 F G b) hb40) (fun _ h => .inl h))
  have HO40 := Lib.hid (row_on HO39.out hb40)
  have HOR40 := Lib.hid (rows_on HOR39.out hb40)
  have HP40 := Lib.hid (row_on HP39.out hb40)
  have HPR40 := Lib.hid (rows_ons HPR39.out hb40)
  clear hb40 HV39 HF39 HO39 HOR39 HP39 HPR39
  clear cDiags
  go_wp2_with fail
  go_ret
  exact ⟨rfl, HF40.out⟩
end Go.Proofs.YtbblgnbafecdmaaGreatDoor.bk
