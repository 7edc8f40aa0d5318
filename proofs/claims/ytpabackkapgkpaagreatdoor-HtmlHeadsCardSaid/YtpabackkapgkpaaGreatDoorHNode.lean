/- html.inside, (*html.paper).node and what it calls: the walks. -/
import Derived.Test.YtpabackkapgkpaaGreatDoorHFits
import Derived.Deep.RegionWith
import Derived.Deep.QuietTactic
import Derived.BigQuiet
import Derived.Outline
namespace Go.Proofs.YtpabackkapgkpaaGreatDoor
open Go.RowKit Go.Lib

set_option maxHeartbeats 1000000 in
theorem inside_any {w : World} {G : Nat → Prop} (v : Value) (l : List Inl) (d : Int) (hv : InlsIn w G v l) :
    Calls Tryz.prog 46 #[v, .int .i64 d] w fun e w' => e = .returned (.int .i64 (inside d l)) ∧ Below w.heap.size w w' := by
  obtain ⟨a, cap, rfl, hc, hm, hl⟩ := hv
  have HL := Lib.hid hl
  clear hl
  go_enter Tryz.func46, Tryz.ntmps46
  go_wp2_with fail
  go_loopw [5] (fun n wr => ∃ k : Nat, k ≤ l.length ∧ n = .int .i64 k ∧ Hid (inside d l = k + inside d (l.drop k)) ∧ Below w.heap.size w wr) (fun n _ => l.length - (RowKit.intOf n).toNat)
  case atStart => exact ⟨0, Nat.zero_le _, rfl, Lib.hid (by simp), Below.refl _ _⟩
  case round =>
    obtain ⟨k, hk, rfl, hI, hB⟩ := hrel
    by_cases hlt : k < l.length
    · rcases HL.out with h0 | ⟨b, o, rfl, hb, -, hat⟩
      · rw [h0] at hlt; simp at hlt
      have hki : (k : Int) < l.length := by omega
      have hk0 : (0 : Int) ≤ (k : Int) := by omega
      have c1 := (hB.cell (p := ⟨b, o + k * 5 + 1, none⟩) hb).trans (hat k hlt).c1
      have HD := Lib.hid (List.drop_eq_getElem_cons hlt)
      clear hat
      generalize l[k] = x at *
      cases hd : decide (d < x.depth) with
      | true =>
        have hI2 := Lib.hid (show inside d l = ((k + 1 : Nat) : Int).toNat + inside d (l.drop (k + 1)) by
          rw [hI.out, HD.out]; simp only [decide_eq_true_eq] at hd; simp [inside, hd]; omega)
        go_wp2_with fail
        go_roundw
        case rel => exact ⟨k + 1, by omega, by go_num, Lib.hid (by have := hI2.out; simpa using this), hB⟩
        case measure => simp only [RowKit.intOf]; omega
      | false =>
        have hI2 := Lib.hid (show inside d l = k by
          rw [hI.out, HD.out]; simp only [decide_eq_false_iff_not] at hd; simp [inside, hd])
        go_wp2_with fail
        go_ret
        exact ⟨by rw [hI2.out]; rfl, hB⟩
    · have hI2 := Lib.hid (show inside d l = k by
        rw [hI.out, List.drop_of_length_le (by omega)]; simp [inside])
      go_wp2_with fail
      go_ret
      exact ⟨by rw [hI2.out]; rfl, hB⟩

theorem NotesAt.kinds {base : Nat} {F : Nat → Prop} {b : Nat} {L : List ByteArray} {C : List Int} {w : World} (h : NotesAt 35 base F b L C w) : ∀ k, F k → ∃ cs T, w.heap[k]? = some (.cells cs T (0, 0)) ∧ T ≠ 74 ∧ T ≠ 5 ∧ T ≠ 123 ∧ T ≠ 92 := by
  obtain ⟨hg, hl, v1, v2, hb, h1, h2, hF⟩ := h
  intro k hk
  rcases (hF k).1 hk with rfl | e | e
  · exact ⟨_, _, hb, by decide, by decide, by decide, by decide⟩
  · obtain ⟨-, cur, hc⟩ := row_block h1 e
    exact ⟨_, _, hc, by decide, by decide, by decide, by decide⟩
  · obtain ⟨-, cur, hc⟩ := row_block h2 e
    exact ⟨_, _, hc, by decide, by decide, by decide, by decide⟩
/-- the notes change, nothing else -/
theorem PSt.noted {w0 w1 : World} {Fn : Nat → Prop} {v9 : Held} {b : Nat} {wr : Value} {nb : Nat} {s : HSt} {w : World} (h : PSt w0 w1 Fn v9 b wr nb s w) {F' : Nat → Prop} (hN : NotesAt 35 w0.heap.size F' nb s.L s.C w) (hF : ∀ k, F' k → Fn k ∨ w1.heap.size ≤ k) (hK : ∀ g o, v9.kb g = some o → ¬ F' g)
    {s' : HSt} {w' : World} (e1 : s'.out = s.out) (e2 : s'.dg = s.dg) (e3 : s'.stk = s.stk) (h1 : ∃ F'', NotesAt 35 w0.heap.size F'' nb s'.L s'.C w' ∧ ∀ k, F'' k → F' k ∨ w.heap.size ≤ k) (hfr : Frame F' w w') : PSt w0 w1 Fn v9 b wr nb s' w' := by
  obtain ⟨F'', h1, h2⟩ := h1
  obtain ⟨dg, hp, hd⟩ := h.paper
  have hs := h.frame.size
  refine ⟨hfr.on_below (fun k hk => (hN.lt k hk).1) h.below (Nat.le_refl _), h.le, h.frame.trans hfr hF, ⟨dg, ?_, ?_⟩, ⟨F'', h1, fun k hk => ?_, fun g o hk hf => ?_⟩, ?_, fun g o hk => ?_⟩
  · rw [e1]
    obtain ⟨cs, hb⟩ := hp.block
    refine hp.kept fun k hk hkind => hfr.block k hk fun hFk => ?_
    obtain ⟨c1, T, hT, n1, n2, -⟩ := hN.kinds k hFk
    rcases hkind with rfl | ⟨c2, fz, hc2⟩
    · rw [hT] at hb; cases hb; exact n1 rfl
    · rw [hT] at hc2; cases hc2; exact n2 rfl
  · rw [e2]
    refine row_kept hd fun g hg => hfr.block g (hd.lt g hg).2 fun hFk => ?_
    obtain ⟨c1, T, hT, -, -, n3, -⟩ := hN.kinds g hFk
    obtain ⟨-, cur, hc⟩ := row_block hd hg
    rw [hT] at hc; cases hc; exact n3 rfl
  · rcases h2 k hk with h' | h'
    · exact hF k h'
    · exact .inr (Nat.le_trans hs h')
  · have hlt := (Array.getElem?_eq_some_iff.1 (h.ctr g o hk).1).1
    rcases h2 g hf with h' | h'
    · exact hK g o hk h'
    · omega
  · rw [e3]
    refine row_kept h.stk fun g hg => hfr.block g (h.stk.lt g hg).2 fun hFk => ?_
    obtain ⟨c1, T, hT, -, -, -, n4⟩ := hN.kinds g hFk
    obtain ⟨-, cur, hc⟩ := row_block h.stk hg
    rw [hT] at hc; cases hc; exact n4 rfl
  · have h9 := h.ctr g o hk
    exact ⟨(hfr.block g (Array.getElem?_eq_some_iff.1 h9.1).1 (hK g o hk)).trans h9.1, h9.2⟩
/-- a note is asked for -/
theorem refn_any {w0 w1 : World} {Fn : Nat → Prop} {v9 : Held} {b : Nat} {wr : Value} {nb N : Nat} {s : HSt} {w : World} {nm : ByteArray} (h : PSt w0 w1 Fn v9 b wr nb s w) (hf : Fits (N + 1) s) (hn : nm.size ≤ 100000) :
    Calls Tryz.prog 20 #[.pointer (some ⟨nb, 0, none⟩), .string nm] w fun e w' => e = .returned (.tuple #[.int .i64 (refS nm s).1, .int .i64 (refS nm s).2.1]) ∧ PSt w0 w1 Fn v9 b wr nb (refS nm s).2.2 w' := by
  obtain ⟨F', hN, hF, hK⟩ := h.notes
  have hsm : ∀ x ∈ s.L, x.size ≤ 9223372036854775807 := fun x hx => by have := hf.small x hx; omega
  have hL : s.L.length ≤ 100000 := by have := hf.names; omega
  rcases refS_cases nm s hf.len with ⟨hidx, e⟩ | ⟨i, c, hi, hidx, hc, e⟩
  · rw [e]
    refine (ref_new hN hidx hL (by omega) hsm h.below.size).mono ?_
    rintro e w' ⟨rfl, h1, hfr⟩
    exact ⟨rfl, h.noted hN hF hK rfl rfl rfl h1 hfr⟩
  · rw [e]
    have hcb := hf.nums c (List.mem_of_getElem? hc)
    refine (ref_found hN hc hidx hL (by omega) hsm hcb.1 (by omega)).mono ?_
    rintro e w' ⟨rfl, h1, hfr⟩
    exact ⟨rfl, h.noted hN hF hK rfl rfl rfl ⟨F', h1, fun k hk => .inl hk⟩ hfr⟩

theorem writer_cells {w : World} {wb : Nat} {c : Cfg} {vS vN : Value} (h : w.heap[wb]? = some (.cells (writerCells c vS vN) 37 (0, 0))) :
    w.cell? ⟨wb, 0, none⟩ = some (.bool c.number) ∧ w.cell? ⟨wb, 2, none⟩ = some (.bool c.notes) ∧ w.cell? ⟨wb, 3, none⟩ = some (.bool c.raw) ∧ w.cell? ⟨wb, 5, none⟩ = some vS ∧ w.cell? ⟨wb, 6, none⟩ = some vN := by
  refine ⟨?_, ?_, ?_, ?_, ?_⟩ <;> rw [Lib.cell_of_heap h] <;> rfl

set_option maxHeartbeats 1000000 in
set_option maxRecDepth 100000 in
theorem note_any {w0 w1 : World} {Fn : Nat → Prop} {v9 : Held} {b wb nb N : Nat} {c : Cfg} {s : HSt} {w : World} {nm X : ByteArray} (h : PSt w0 w1 Fn v9 b (.pointer (some ⟨wb, 0, none⟩)) nb s w) (hw : WriterAt w1 Fn c wb nb) (hT : Tabs w0) (hf : Fits (N + 1) s) (hn : nm.size ≤ 100000)
    (hX : X.data.toList = if c.notes then noteL (refS nm s).1 (refS nm s).2.1 else escL ([91, 94] ++ nm.data.toList ++ [93])) :
    Calls Tryz.prog 63 #[.pointer (some ⟨b, 0, none⟩), .string nm] w fun e w' => e = .returned (.string X) ∧ PSt w0 w1 Fn v9 b (.pointer (some ⟨wb, 0, none⟩)) nb (if c.notes then (refS nm s).2.2 else s) w' := by
  obtain ⟨vS, hcw, -⟩ := h.writer hw
  obtain ⟨dg, hp, -⟩ := h.paper
  have c0 := hp.cell0
  obtain ⟨-, k2, -, -, k6⟩ := writer_cells hcw
  clear hp hcw
  have H := Lib.hid h
  have HX := Lib.hid hX
  have HF := Lib.hid hf
  cases hno : c.notes with
  | false =>
    rw [hno] at HX k2
    clear h hX hf
    go_enter Tryz.func63, Tryz.ntmps63
    go_wp2_with fail
    refine (Esc_lit (w0 := w) (Y := X) (by rw [HX.out]; simp) (by rw [ba_size, ba_append, ba_append]; simp only [List.length_append]; rw [ba_size] at hn; show 2 + nm.data.toList.length + 1 ≤ 2000000; omega) (Below.refl _ _)).mono ?_
    rintro e w' ⟨rfl, hb⟩
    go_wp2_with fail
    go_ret
    exact ⟨rfl, H.out.on hb⟩
  | true =>
    rw [hno] at HX k2
    simp only [if_true] at HX ⊢
    obtain ⟨-, n0, n1, t0, t1⟩ := hf.ref hn
    have cR := refn_any h hf hn
    generalize (refS nm s).1 = n at *
    generalize (refS nm s).2.1 = t at *
    generalize (refS nm s).2.2 = s' at *
    obtain ⟨B, hB⟩ : ∃ Y : ByteArray, Y.data.toList = backL n t := ⟨_, ba_mk _⟩
    obtain ⟨A, hA⟩ : ∃ Y : ByteArray, Y.data.toList = attrL [105, 100] (backL n t) := ⟨_, ba_mk _⟩
    obtain ⟨I, hI⟩ : ∃ Y : ByteArray, Y.data.toList = idL n := ⟨_, ba_mk _⟩
    obtain ⟨D, hD⟩ : ∃ Y : ByteArray, Y.data.toList = Lib.itoa n := ⟨_, ba_mk _⟩
    have hBs : B.size ≤ 60 := by
      have a := itoa_len n (by omega) (by omega)
      have b := itoa_len t (by omega) (by omega)
      rw [ba_size, hB]; unfold backL; simp; omega
    have hAs : A.size ≤ 1000 := by
      have a := attrL_length [105, 100] (backL n t)
      rw [← hB, ← ba_size] at a
      rw [ba_size, hA, ← hB]; simp at a; omega
    have hIs : I.size ≤ 60 := by
      have a := itoa_len n (by omega) (by omega)
      rw [ba_size, hI]; unfold idL; simp; omega
    have hDs : D.size ≤ 21 := by rw [ba_size, hD]; exact itoa_len n (by omega) (by omega)
    have HB := Lib.hid hB
    have HA := Lib.hid hA
    have HI := Lib.hid hI
    have HD := Lib.hid hD
    clear h hX hf hB hA hI hD
    go_enter Tryz.func63, Tryz.ntmps63
    go_wp2_with fail
    refine cR.mono ?_
    rintro e w2 ⟨rfl, h2⟩
    have H2 := Lib.hid h2
    clear cR
    go_wp2_with fail
    have T2 := hT.on H2.out.below
    have cI : ∀ {u : World}, Below w2.heap.size w2 u → Calls Tryz.prog 43 #[.int .i64 n] u fun e u' => e = .returned (.string D) ∧ Below w2.heap.size w2 u' := fun {u} hu => (itoa_any n (by omega) (by omega) u (T2.on hu) HD.out).mono fun e u' ⟨he, hb⟩ => ⟨he, hu.trans (hb.mono hu.size)⟩
    have h0 := Below.refl w2.heap.size w2
    go_wp2_with (first
      | (go_at_call 23; refine (back_from (w0 := w2) n t (by omega) (by omega) (by omega) (by omega) (by assumption) T2 HB.out).mono ?_; rintro e w3 ⟨rfl, hb3⟩)
      | (go_at_call 22; refine (Attr_lit (w0 := w2) (N := ⟨#[105, 100]⟩) (X := B) (Y := A) (by rw [HB.out, HA.out]) (by decide) (by omega) (by assumption)).mono ?_; rintro e w4 ⟨rfl, hb4⟩)
      | (go_at_call 21; refine (id_from (w0 := w2) n (by omega) (by omega) (by assumption) T2 HI.out).mono ?_; rintro e w5 ⟨rfl, hb5⟩)
      | (go_at_call 43; refine (cI (by assumption)).mono ?_; rintro e w6 ⟨rfl, hb6⟩))
    go_ret
    refine ⟨ret_string (ba_eq ?_), H2.out.on (by assumption)⟩
    simp only [ba_append, HA.out, HI.out, HD.out, HX.out]
    simp [noteL]

end Go.Proofs.YtpabackkapgkpaaGreatDoor
