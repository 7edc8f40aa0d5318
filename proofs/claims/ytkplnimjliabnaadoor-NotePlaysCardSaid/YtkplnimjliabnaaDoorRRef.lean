/- (*bowdlerref14.Notes).Ref: the walks. -/
import Derived.Test.YtkplnimjliabnaaDoorTimes
import Derived.Test.YtkplnimjliabnaaDoorKeep
import Derived.Test.YtkplnimjliabnaaDoorBkAt
import Derived.Test.YtkplnimjliabnaaDoorBkSt
namespace Go.Proofs.YtkplnimjliabnaaDoor
open Go.RowKit Go.Lib

theorem bel_drew {B : Nat} {w0 w : World} (h : Below B w0 w) (n : Nat) : Below B w0 (w.drewN n) := ⟨h.os, h.tape, h.output, h.size, fun k hk => h.block k hk⟩
theorem idxN_is (nm : ByteArray) (L : List ByteArray) (k : Nat) : bk.idxN nm L k = idxName nm L k := by
  induction L generalizing k with
  | nil => rfl
  | cons x L ih =>
    show (if bk.eqB x nm = true then (k : Int) else bk.idxN nm L (k + 1)) = (if eqB x nm = true then (k : Int) else idxName nm L (k + 1))
    rw [ih]; rfl

set_option maxHeartbeats 2000000 in
theorem rref_found {base : Nat} {F : Nat → Prop} {b k : Nat} {L : List ByteArray} {C : List Int} {nm : ByteArray} {w : World} (h : NotesAt 33 base F b L C w) {c : Int} (hck : C[k]? = some c) (hidx : idxName nm L 0 = k)
    (hL : L.length ≤ 100000) (hc0 : 0 ≤ c) (hc1 : c ≤ 1000000000) :
    Calls Tryd.prog 10 #[.pointer (some ⟨b, 0, none⟩), .string nm] w fun e w' => e = .returned (.tuple #[.int .i64 (k + 1), .int .i64 (c + 1)]) ∧ NotesAt 33 base F b L (C.set k (c + 1)) w' ∧ Frame F w w' := by
  have hk : k < C.length := (List.getElem?_eq_some_iff.1 hck).1
  have HCK := Lib.hid hck
  clear hck
  have HN := Lib.hid h
  have HI := Lib.hid hidx
  have hLk : k < 100000 := by have := h.len; omega
  obtain ⟨v1, v2, hb, h1, h2, hF⟩ := h.rows
  have hc := cell_of_row w b 0 #[v1, v2] _ _ hb
  simp only [List.getElem?_toArray, List.getElem?_cons_zero] at hc
  have HV := Lib.hid (bk.namesIn_row h1)
  clear h hidx hb h1 h2 hF
  go_enter Tryd.func10, Tryd.ntmps10
  go_wp2_with fail
  refine (bk.refAt_any v1 L nm HV.out hL).mono ?_
  rw [idxN_is]
  rintro e w1 ⟨rfl, hb1⟩
  rw [HI.out]
  have hfr : Frame (fun _ => False) w w1 := Frame.of_below hb1
  have hN1 := HN.out.frame hfr (fun _ _ h => h)
  have HN1 := Lib.hid hN1
  obtain ⟨u1, u2, hb, h1, h2, hF⟩ := hN1.rows
  obtain ⟨g, cap, rfl, hcap⟩ := row_some h2 (by rw [List.length_map]; omega)
  obtain ⟨-, cur, hg⟩ := row_block h2 rfl
  have hbg : ¬ b = g := by
    rintro rfl
    rw [hb] at hg
    simp only [Option.some.injEq, Obj.cells.injEq] at hg
    exact absurd hg.2.1 (by decide)
  have hgb : ¬ g = b := fun e => hbg e.symm
  have c1 : w1.cell? ⟨b, 1, none⟩ = some (.slice (some ⟨g, 0, none⟩) C.length cap) := by
    have := cell_of_row w1 b 1 _ _ _ hb; simpa using this
  have ck : w1.cell? ⟨g, k, none⟩ = some (.int .i64 c) := by
    rw [h2.cellAt k (by omega), List.getElem?_map, HCK.out]; rfl
  have fk : w1.frozen? ⟨g, k, none⟩ = false := h2.frozenAt k
  have hst := h2.stored k (.int .i64 (c + 1))
  have HST := Lib.hid hst
  have HB := Lib.hid hb
  have H1 := Lib.hid h1
  have HF := Lib.hid hF
  have HFR := Lib.hid hfr
  clear hst hb h1 h2 hF hfr hN1 hg hc hb1
  have hki : (k : Int) < C.length := by omega
  have hk0 : 0 ≤ (k : Int) := by omega
  go_wp2_with fail
  have e1 : IntKind.i64.wrap ((k : Int) + 1) = (k : Int) + 1 := IntWalk.i64_in _ (by omega)
  go_quiet (fail)
  go_wp2_with fail
  go_ret2
  refine ⟨rfl, ?_, ?_⟩
  · refine NotesAt.frame (G := fun _ => False) (w := w1.setCell ⟨g, k, none⟩ (.int .i64 (c + 1))) ⟨HN1.out.ge, by rw [List.length_set]; exact HN1.out.len, u1, _, ?_, ?_, ?_, HF.out⟩ (Frame.of_below (bel_drew (Below.refl _ _) _)) (fun _ _ h => h)
    · rw [HST.out.2.block b (Array.getElem?_eq_some_iff.1 HB.out).1 (by simpa using hbg)]; exact HB.out
    · refine row_kept H1.out (fun g' hg' => ?_)
      obtain ⟨-, cur', hg''⟩ := row_block H1.out hg'
      refine HST.out.2.block g' (H1.out.lt g' hg').2 ?_
      intro e
      cases e
      have hx := row_block HST.out.1 (g := g) rfl
      obtain ⟨-, cur2, hx⟩ := hx
      simp only [World.setCell, Array.getElem?_modify] at hx
      rw [hg''] at hx
      simp at hx
    · rw [List.length_set, List.map_set]; exact HST.out.1
  · exact (HFR.out.weaken (fun _ h => h.elim)).trans ((Frame.of_grown HST.out.2 (fun x hx => by cases hx; exact (HF.out g).2 (.inr (.inr rfl)))).trans (Frame.of_below (F := fun _ => False) (bel_drew (Below.refl _ _) _)) (fun _ h => h.elim)) (fun _ h => .inl h)

/-- two rows of different element types lie in different blocks -/

theorem ints_cells {w : World} {base : Nat} {v : Value} {C : List Int} {a : Option Addr} {cap n : Nat} (h : w.ownsRow base 3 1 v n (C.map (.int .i64))) (hv : v = .slice a n cap) : ∀ ad, a = some ad → ∀ j u, (C.map (Value.int .i64))[j]? = some u → w.cell? (ad.add j) = some u := by
  rintro ad rfl j u hu
  have hne : 0 < (C.map (Value.int .i64)).length := by
    have := (List.getElem?_eq_some_iff.1 hu).1; omega
  obtain ⟨g, c, e, -⟩ := row_some h hne
  rw [hv] at e
  cases e
  subst hv
  exact h.cells rfl j u hu
theorem ints_none {w : World} {base : Nat} {v : Value} {C : List Int} {cap n : Nat} (h : w.ownsRow base 3 1 v n (C.map (.int .i64))) (hv : v = .slice none n cap) : n = 0 := by
  rcases h.2 with ⟨-, h0⟩ | ⟨g, c, cur, e, _⟩
  · exact h0
  · rw [hv] at e; cases e
theorem ints_one (C : List Int) : ∀ u ∈ C.map (Value.int .i64), u.oneCell' = true := by
  intro u hu
  obtain ⟨x, -, rfl⟩ := List.mem_map.1 hu
  rfl

set_option maxRecDepth 100000 in
set_option maxHeartbeats 2000000 in
theorem rref_new {base : Nat} {F : Nat → Prop} {b : Nat} {L : List ByteArray} {C : List Int} {nm : ByteArray} {w : World} (h : NotesAt 33 base F b L C w) (hidx : idxName nm L 0 = -1)
    (hL : L.length ≤ 100000) (hbw : base ≤ w.heap.size) :
    Calls Tryd.prog 10 #[.pointer (some ⟨b, 0, none⟩), .string nm] w fun e w' => e = .returned (.tuple #[.int .i64 (L.length + 1), .int .i64 1]) ∧ (∃ F', NotesAt 33 base F' b (L ++ [nm]) (C ++ [1]) w' ∧ ∀ k, F' k → F k ∨ w.heap.size ≤ k) ∧ Frame F w w' := by
  have HN := Lib.hid h
  have HI := Lib.hid hidx
  have hlen := h.len
  have HLEN := Lib.hid hlen
  obtain ⟨v1, v2, hb, h1, h2, hF⟩ := h.rows
  have hc := cell_of_row w b 0 #[v1, v2] _ _ hb
  simp only [List.getElem?_toArray, List.getElem?_cons_zero] at hc
  have HV := Lib.hid (bk.namesIn_row h1)
  clear h hidx hb h1 h2 hF hlen
  obtain ⟨i0, hi, hz0, hz1, hz2⟩ := info_parts info_str
  obtain ⟨j0, hj, hy0, hy1, hy2⟩ := info_parts info_int
  have HI0 : Hid (Tryd.prog.info? 9 = some i0 ∧ i0.zero = some (.string ⟨#[]⟩) ∧ i0.size = 1 ∧ i0.bytes = 16) := ⟨hi, hz0, hz1, hz2⟩
  have HJ0 : Hid (Tryd.prog.info? 3 = some j0 ∧ j0.zero = some (.int .i64 0) ∧ j0.size = 1 ∧ j0.bytes = 8) := ⟨hj, hy0, hy1, hy2⟩
  clear hi hz0 hz1 hz2 hj hy0 hy1 hy2
  go_enter Tryd.func10, Tryd.ntmps10
  go_wp2_with fail
  refine (bk.refAt_any v1 L nm HV.out hL).mono ?_
  rw [idxN_is]
  rintro e w1 ⟨rfl, hb1⟩
  rw [HI.out]
  have hfr : Frame (fun _ => False) w w1 := Frame.of_below hb1
  have hN1 := HN.out.frame hfr (fun _ _ h => h)
  have HN1 := Lib.hid hN1
  obtain ⟨u1, u2, hb, h1, h2, hF⟩ := hN1.rows
  rw [HLEN.out] at h2
  have hsz1 := hb1.size
  have hblt : b < w1.heap.size := (Array.getElem?_eq_some_iff.1 hb).1
  have c0 : w1.cell? ⟨b, 0, none⟩ = some u1 := (cells_two hb).1
  obtain ⟨a1, cap1, rfl, hcap1⟩ := bk.row_form h1
  obtain ⟨a2, cap2, rfl, hcap2⟩ := bk.row_form h2
  have HB := Lib.hid hb
  have H1 := Lib.hid h1
  have H2 := Lib.hid h2
  have HF := Lib.hid hF
  have HFR := Lib.hid hfr
  have HS1 := Lib.hid hsz1
  have HNA := Lib.hid (bk.namesIn_row h1)
  clear hb h1 h2 hF hfr hN1 hc hb1 hsz1
  have hb2 : base ≤ w1.heap.size := Nat.le_trans hbw HS1.out
  have hcl : (C.map (Value.int .i64)).length = L.length * 1 := by rw [List.length_map, HLEN.out, Nat.mul_one]
  have hll : (L.map Value.string).length = L.length * 1 := by rw [List.length_map, Nat.mul_one]
  have HCL := Lib.hid hcl
  have HLL := Lib.hid hll
  clear hcl hll
  have tok1 : True := trivial
  go_wp2_with (first
    | (have _g := tok1; clear tok1; at_builtin; refine wpList_append_keep rfl (.const (.slice none 0 0)) (.tmp 19) 26 rfl base 9 i0 (.string ⟨#[]⟩) 1 16 Tryd.underlying26 HI0.out.1 HI0.out.2.1 HI0.out.2.2.1 HI0.out.2.2.2 rfl (by decide) (.slice none 0 0) 0 [] rfl (World.ownsRow_nil _ _ _ _) a1 L.length cap1 (L.map .string) rfl HLL.out (fun h => bk.names_none HNA.out (by rw [h])) (bk.names_cells HNA.out rfl) (bk.strs_one L) (by unfold maxLen; omega) (by omega) hb2 ?_; intro va w2 hown2 hkp2 hgr2 hat2; have HA2 := Lib.hid (bk.own_congr hown2 (List.nil_append _) (Nat.zero_add _)); have HG2 := Lib.hid hgr2; have HAT2 := Lib.hid hat2; have HB2 := Lib.hid (heap_apart hgr2 HB.out (by simp [Value.ownBlock])); have HT2 := Lib.hid (row_kept H2.out (fun g hg => hgr2.block g (H2.out.lt g hg).2 (by simp [Value.ownBlock]))); have hs2 := hgr2.size; have tok2 : True := trivial; clear hown2 hkp2 hgr2 hat2)
    | (have _g := tok2; clear tok2; at_builtin; refine wpList_append_keep rfl (.tmp 20) (.tmp 22) 26 rfl base 9 i0 (.string ⟨#[]⟩) 1 16 Tryd.underlying26 HI0.out.1 HI0.out.2.1 HI0.out.2.2.1 HI0.out.2.2.2 rfl (by decide) va L.length (L.map .string) rfl (HA2.out.alloc _) (some ⟨w2.heap.size, 0, none⟩) 1 1 [.string nm] rfl rfl (fun h => by cases h) (news_one w2 _ _) (fun u hu => by rw [List.mem_singleton.1 hu]; rfl) (by unfold maxLen; omega) (by omega) (by simp; omega) ?_; intro vb w3 hown3 hkp3 hgr3 hat3; have HVA := Lib.hid (row_not_struct HA2.out HB2.out (by decide)); have HB3 := Lib.hid (heap_apart hgr3 (by rw [Below.heap_alloc _ _ _ (Array.getElem?_eq_some_iff.1 HB2.out).1]; exact HB2.out) HVA.out); have HT3 := Lib.hid (row_kept (HT2.out.alloc (.cells #[.string nm] 9)) (fun g hg => hgr3.block g ((HT2.out.alloc _).lt g hg).2 (fun e => rows_apart HT2.out HA2.out (by decide) g hg e.symm))); obtain ⟨g3, k3, rfl, -⟩ := row_some hown3 (by simp); have HA3 := Lib.hid hown3; have HG3 := Lib.hid hgr3; have HAT3 := Lib.hid hat3; have c30 := (cells_two HB3.out).1; have c31 := (cells_two HB3.out).2.1; have f30 := (cells_two HB3.out).2.2.1; have HT3s := Lib.hid (row_set (b := b) (i := 0) (x := .slice (some ⟨g3, 0, none⟩) (L.length + 1) k3) HT3.out (row_not_struct HT3.out HB3.out (by decide))); have HA3s := Lib.hid (row_set (b := b) (i := 0) (x := .slice (some ⟨g3, 0, none⟩) (L.length + 1) k3) HA3.out (row_not_struct HA3.out HB3.out (by decide))); have hs3 := hgr3.size; have tok3 : True := trivial; clear hown3 hkp3 hgr3 hat3)
    | (have _g := tok3; clear tok3; at_builtin; refine wpList_append_keep rfl (.const (.slice none 0 0)) (.tmp 30) 28 rfl base 3 j0 (.int .i64 0) 1 8 Tryd.underlying28 HJ0.out.1 HJ0.out.2.1 HJ0.out.2.2.1 HJ0.out.2.2.2 rfl (by decide) (.slice none 0 0) 0 [] rfl (World.ownsRow_nil _ _ _ _) a2 L.length cap2 (C.map (.int .i64)) rfl HCL.out (fun h => ints_none HT3s.out (by rw [h])) (ints_cells HT3s.out rfl) (ints_one C) (by unfold maxLen; omega) (by omega) (by rw [set_size]; simp at hs3; omega) ?_; intro vc w4 hown4 hkp4 hgr4 hat4; have HA4 := Lib.hid (bk.own_congr hown4 (List.nil_append _) (Nat.zero_add _)); have HG4 := Lib.hid hgr4; have HAT4 := Lib.hid hat4; have HB4 := Lib.hid (heap_apart hgr4 (heap_set (i := 0) (x := .slice (some ⟨g3, 0, none⟩) (L.length + 1) k3) HB3.out).1 (by simp [Value.ownBlock])); have HS4 := Lib.hid (row_kept HA3s.out (fun g hg => hgr4.block g (HA3s.out.lt g hg).2 (by simp [Value.ownBlock]))); have hs4 := hgr4.size; rw [set_size] at hs4; have tok4 : True := trivial; clear hown4 hkp4 hgr4 hat4)
    | (have _g := tok4; clear tok4; at_builtin; refine wpList_append_keep rfl (.tmp 31) (.tmp 32) 28 rfl base 3 j0 (.int .i64 0) 1 8 Tryd.underlying28 HJ0.out.1 HJ0.out.2.1 HJ0.out.2.2.1 HJ0.out.2.2.2 rfl (by decide) vc L.length (C.map (.int .i64)) rfl (HA4.out.alloc _) (some ⟨w4.heap.size, 0, none⟩) 1 1 [.int .i64 0] rfl rfl (fun h => by cases h) (news_one w4 _ _) (fun u hu => by rw [List.mem_singleton.1 hu]; rfl) (by unfold maxLen; omega) (by omega) (by simp at hs3; simp; omega) ?_; intro vd w5 hown5 hkp5 hgr5 hat5; have HVC := Lib.hid (row_not_struct HA4.out HB4.out (by decide)); have HB5 := Lib.hid (heap_apart hgr5 (by rw [Below.heap_alloc _ _ _ (Array.getElem?_eq_some_iff.1 HB4.out).1]; exact HB4.out) HVC.out); have HS5 := Lib.hid (row_kept (HS4.out.alloc (.cells #[.int .i64 0] 3)) (fun g hg => hgr5.block g ((HS4.out.alloc _).lt g hg).2 (fun e => rows_apart HS4.out HA4.out (by decide) g hg e.symm))); obtain ⟨g5, k5, rfl, -⟩ := row_some hown5 (by simp); have HA5 := Lib.hid hown5; have HG5 := Lib.hid hgr5; have HAT5 := Lib.hid hat5; have c50 := (cells_two HB5.out).1; have c51 := (cells_two HB5.out).2.1; have f51 := (cells_two HB5.out).2.2.2; have c5n : w5.cell? ⟨g5, L.length, none⟩ = some (.int .i64 0) := (by rw [hown5.cellAt L.length (by omega), List.getElem?_append_right (by rw [HCL.out]; omega), HCL.out]; simp); have f5n := hown5.frozenAt L.length; have hgb5 : ¬ g5 = b := (fun e => row_not_struct hown5 HB5.out (by decide) (by rw [e]; rfl)); have hbg5 : ¬ b = g5 := (fun e => hgb5 e.symm); have hs5 := hgr5.size; clear hown5 hkp5 hgr5 hat5))
  have hkk : (L.length : Int) < (L.length : Int) + 1 := by omega
  have e1 : IntKind.i64.wrap ((L.length : Int) + 1) = (L.length : Int) + 1 := IntWalk.i64_in _ (by omega)
  go_quiet (fail)
  go_wp2_with fail
  go_ret2
  have hn1 := row_not_struct HS5.out HB5.out (by decide)
  have hn2 := row_not_struct HA5.out HB5.out (by decide)
  have hb5 := (heap_set (i := 0) (x := .slice (some ⟨g5, 0, none⟩) (L.length + 1) k5) HB5.out).2.1
  have r15 := row_set (b := b) (i := 1) (x := .slice (some ⟨g5, 0, none⟩) (L.length + 1) k5) HS5.out hn1
  have r25 := row_set (b := b) (i := 1) (x := .slice (some ⟨g5, 0, none⟩) (L.length + 1) k5) HA5.out hn2
  have ha := rows_apart r15 r25 (by decide)
  have hst := r25.stored L.length (.int .i64 1)
  have hFb : F b := (HF.out b).2 (.inl rfl)
  have hs1 := HS1.out
  have hs2' := HG2.out.size
  have hs3' := HG3.out.size
  have hs4' := HG4.out.size
  have hs5' := HG5.out.size
  rw [set_size] at hs4'
  simp only [World.alloc, Array.size_push] at hs3' hs5'
  have hva : ∀ k, va.ownBlock = some k → w.heap.size ≤ k := by
    intro k hk
    rcases HAT2.out with h | ⟨h, -⟩
    · rw [h] at hk; simp [Value.ownBlock] at hk
    · rw [hk] at h; simp at h; omega
  have hvc : ∀ k, vc.ownBlock = some k → w.heap.size ≤ k := by
    intro k hk
    rcases HAT4.out with h | ⟨h, -⟩
    · rw [h] at hk; simp [Value.ownBlock] at hk
    · rw [hk, set_size] at h; simp at h; omega
  have hFg1 : ∀ k, (Value.slice (some ⟨g3, 0, none⟩) (L.length + 1) k3).ownBlock = some k → w.heap.size ≤ k := by
    intro k hk
    rcases HAT3.out with h | ⟨h, -⟩
    · exact hva k (by rw [← h]; exact hk)
    · rw [hk] at h; simp at h; omega
  have hFg2 : ∀ k, (Value.slice (some ⟨g5, 0, none⟩) (L.length + 1) k5).ownBlock = some k → w.heap.size ≤ k := by
    intro k hk
    rcases HAT5.out with h | ⟨h, -⟩
    · exact hvc k (by rw [← h]; exact hk)
    · rw [hk] at h; simp at h; omega
  refine ⟨rfl, ⟨fun k => k = b ∨ (Value.slice (some ⟨g3, 0, none⟩) (L.length + 1) k3).ownBlock = some k ∨ (Value.slice (some ⟨g5, 0, none⟩) (L.length + 1) k5).ownBlock = some k, ?_, ?_⟩, ?_⟩
  · refine NotesAt.frame (G := fun _ => False) ⟨HN1.out.ge, by simp [HLEN.out], _, _, ?_, ?_, ?_, fun k => Iff.rfl⟩ (Frame.of_below (bel_drew (Below.refl _ _) _)) (fun _ _ h => h)
    · rw [Below.heap_setCell _ _ _ _ hbg5]; exact hb5
    · rw [List.length_append, List.map_append]
      exact row_set r15 (fun e => ha g5 e rfl)
    · have hl : (C ++ [1]).length = L.length + 1 := by simp [HLEN.out]
      have hm : (C ++ [1]).map (Value.int IntKind.i64) = (C.map (Value.int IntKind.i64) ++ [Value.int IntKind.i64 0]).set L.length (Value.int IntKind.i64 1) := by
        rw [List.set_append_right _ _ (by rw [List.length_map]; exact Nat.le_of_eq HLEN.out), List.length_map, HLEN.out, Nat.sub_self]; simp
      rw [hl, hm]; exact hst.1
  · rintro k (rfl | hk | hk)
    · exact .inl hFb
    · exact .inr (hFg1 k hk)
    · exact .inr (hFg2 k hk)
  · have f1 : Frame F w w1 := HFR.out.weaken (fun _ h => h.elim)
    have f2 := f1.trans (Frame.of_grown (F := fun _ => False) HG2.out (fun k hk => by simp [Value.ownBlock] at hk)) (fun _ h => h.elim)
    have f3 := f2.trans (Frame.of_below (F := fun _ => False) ((Below.refl _ w2).alloc (Nat.le_refl _) (.cells #[.string nm] 9))) (fun _ h => h.elim)
    have f4 := f3.trans (Frame.of_grown (F := fun k => va.ownBlock = some k) HG3.out (fun k hk => hk)) (fun k h => .inr (hva k h))
    have f5 := f4.trans (Frame.of_grown (F := F) (grown_set (b := b) (i := 0) (x := .slice (some ⟨g3, 0, none⟩) (L.length + 1) k3)) (fun k hk => by cases hk; exact hFb)) (fun _ h => .inl h)
    have f6 := f5.trans (Frame.of_grown (F := fun _ => False) HG4.out (fun k hk => by simp [Value.ownBlock] at hk)) (fun _ h => h.elim)
    have f7 := f6.trans (Frame.of_below (F := fun _ => False) ((Below.refl _ _).alloc (Nat.le_refl _) (.cells #[.int .i64 0] 3))) (fun _ h => h.elim)
    have f8 := f7.trans (Frame.of_grown (F := fun k => vc.ownBlock = some k) HG5.out (fun k hk => hk)) (fun k h => .inr (hvc k h))
    have f9 := f8.trans (Frame.of_grown (F := F) (grown_set (b := b) (i := 1) (x := .slice (some ⟨g5, 0, none⟩) (L.length + 1) k5)) (fun k hk => by cases hk; exact hFb)) (fun _ h => .inl h)
    have f10 := f9.trans (Frame.of_grown (F := fun k => k = g5) (grown_set (b := g5) (i := L.length) (x := .int .i64 1)) (fun k hk => by cases hk; rfl)) (fun i h => by subst h; exact .inr (hFg2 i rfl))
    exact f10.trans (Frame.of_below (F := fun _ => False) (bel_drew (Below.refl _ _) _)) (fun _ h => h.elim)
end Go.Proofs.YtkplnimjliabnaaDoor
