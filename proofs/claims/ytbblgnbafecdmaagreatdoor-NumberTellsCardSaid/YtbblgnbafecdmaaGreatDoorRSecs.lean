/- bowdlerref14.Sections: the walk. -/
import Derived.Test.YtbblgnbafecdmaaGreatDoorRNum
import Derived.Test.YtbblgnbafecdmaaGreatDoorRefAnchor
import Derived.Test.YtbblgnbafecdmaaGreatDoorSecs
import Derived.Deep.RegionHeld3
namespace Go.Proofs.YtbblgnbafecdmaaGreatDoor
open Go.RowKit Go.Lib

theorem hadOf_snoc (L : List ByteArray) (x : ByteArray) : hadOf (L ++ [x]) = hadOf L ++ [x.data.toList] := by simp [hadOf]
theorem hadOf_len (L : List ByteArray) : (hadOf L).length = L.length := by simp [hadOf]
/-- behind k headings; w2: the world behind the numbers -/
structure RSecSt (w2 : World) (hs : List Hd) (k : Nat) (hd out : Value) (L : List ByteArray) (w : World) : Prop where
  chain : Chain ((hs.take k).map (·.text.data.toList)) (hadOf L)
  had : w.ownsRow w2.heap.size 9 1 hd L.length (L.map .string)
  row : w.ownsRow w2.heap.size 52 4 out k ((secsOf (hs.take k) (hadOf L)).flatMap Sec.cells)
  below : Below w2.heap.size w2 w
theorem RSecSt.on {w2 : World} {hs : List Hd} {k : Nat} {hd out : Value} {L : List ByteArray} {w w' : World} (h : RSecSt w2 hs k hd out L w) (hb : Below w.heap.size w w') : RSecSt w2 hs k hd out L w' :=
  ⟨h.chain, row_kept h.had (fun g hg => hb.block g (h.had.lt g hg).2), row_kept h.row (fun g hg => hb.block g (h.row.lt g hg).2), h.below.trans (hb.mono h.below.size)⟩
theorem RSecSt.len {w2 : World} {hs : List Hd} {k : Nat} {hd out : Value} {L : List ByteArray} {w : World} (h : RSecSt w2 hs k hd out L w) (hk : k ≤ hs.length) : L.length = k := by
  have := h.chain.1
  rw [hadOf_len, List.length_map, List.length_take] at this; omega
/-- the next one's anchor is kept, its section not yet -/
structure RMid (w2 : World) (hs : List Hd) (k : Nat) (hd out : Value) (L : List ByteArray) (ID : ByteArray) (w : World) : Prop where
  had : w.ownsRow w2.heap.size 9 1 hd (L ++ [ID]).length ((L ++ [ID]).map .string)
  row : w.ownsRow w2.heap.size 52 4 out k ((secsOf (hs.take k) (hadOf L)).flatMap Sec.cells)
  below : Below w2.heap.size w2 w
theorem RMid.on {w2 : World} {hs : List Hd} {k : Nat} {hd out : Value} {L : List ByteArray} {ID : ByteArray} {w w' : World} (h : RMid w2 hs k hd out L ID w) (hb : Below w.heap.size w w') : RMid w2 hs k hd out L ID w' :=
  ⟨row_kept h.had (fun g hg => hb.block g (h.had.lt g hg).2), row_kept h.row (fun g hg => hb.block g (h.row.lt g hg).2), h.below.trans (hb.mono h.below.size)⟩
theorem RSecSt.mid {w2 : World} {hs : List Hd} {k : Nat} {hd hd' out : Value} {L : List ByteArray} {ID : ByteArray} {w w' : World} {o : Obj} (h : RSecSt w2 hs k hd out L w)
    (hown : w'.ownsRow w2.heap.size 9 1 hd' (L.length + 1) (L.map .string ++ [.string ID])) (hg : (w.alloc o).grownBy w' hd.ownBlock) : RMid w2 hs k hd' out L ID w' := by
  have hr := h.row.alloc o
  have hh := h.had.alloc o
  have hB1 := h.below.alloc h.below.size o
  refine ⟨?_, row_kept hr (fun g hgb => hg.block g (hr.lt g hgb).2 (fun e => rows_apart hr hh (by decide) g hgb e.symm)), hB1.grown hg hB1.size (fun g hg => (h.had.lt g hg).1)⟩
  rw [List.length_append, List.length_singleton, List.map_append]
  exact hown
theorem RMid.next {w2 : World} {hs : List Hd} {k : Nat} {hd out v' : Value} {L : List ByteArray} {lev : Int} {txt N ID : ByteArray} {w wA : World} {o : Obj} (h : RMid w2 hs k hd out L ID w) (hc : Chain ((hs.take k).map (·.text.data.toList)) (hadOf L)) (hk : k < hs.length) (hh : hs[k] = ⟨lev, txt⟩)
    (hn : NextIs (hadOf L) (slugL txt.data.toList) ID.data.toList) (hN : N.data.toList = numK (stC ((hs.take k).map (·.level))) lev)
    (hown : wA.ownsRow w2.heap.size 52 4 v' (k + 1) ((secsOf (hs.take k) (hadOf L)).flatMap Sec.cells ++ Sec.cells ⟨lev, N, ID, txt⟩)) (hg : (w.alloc o).grownBy wA out.ownBlock) : RSecSt w2 hs (k + 1) hd v' (L ++ [ID]) wA := by
  have htk := List.take_succ_eq_append_getElem hk
  rw [hh] at htk
  have hidl : (hadOf L).length = (hs.take k).length := by rw [hc.1, List.length_map]
  have hB1 := h.below.alloc h.below.size o
  have hd1 := h.had.alloc o
  have hr1 := h.row.alloc o
  refine ⟨?_, row_kept hd1 (fun g hgb => hg.block g (hd1.lt g hgb).2 (fun e => rows_apart hd1 hr1 (by decide) g hgb e.symm)), ?_, hB1.grown hg hB1.size (fun g hg => (h.row.lt g hg).1)⟩
  · rw [htk, List.map_append, hadOf_snoc]
    exact hc.snoc hn
  · rw [htk, hadOf_snoc, secsOf_snoc ⟨lev, txt⟩ ID.data.toList hidl, List.flatMap_append]
    have e1 : (⟨(numK (stC ((hs.take k).map (·.level))) lev).toArray⟩ : ByteArray) = N := ba_eq (by rw [hN])
    have e2 : (⟨ID.data.toList.toArray⟩ : ByteArray) = ID := ba_eq rfl
    simp only [e1, e2]
    simpa using hown
theorem names_cellsR {w : World} {v : Value} {l : List ByteArray} {a : Option Addr} {cap : Nat} (h : NamesIn w v l) (hv : v = .slice a l.length cap) (hne : 0 < l.length) : ∃ b o, a = some ⟨b, o, none⟩ ∧ b < w.heap.size ∧ ∀ i (h : i < l.length), w.cell? ⟨b, o + i, none⟩ = some (.string l[i]) := by
  rcases h with ⟨rfl, -⟩ | ⟨b, o, cap', rfl, hb, hc⟩
  · simp at hne
  · simp only [Value.slice.injEq] at hv
    exact ⟨b, o, hv.1.symm, hb, hc⟩

set_option maxRecDepth 100000 in
set_option maxHeartbeats 4000000 in
theorem rsecs_any {w : World} (hT : Tabs w) (a0 a1 : Option Addr) (cap0 cap1 : Nat) (hs : List Hd) (hu : IntsIn w (.slice a0 hs.length cap0) (hs.map (·.level))) (hv : NamesIn w (.slice a1 hs.length cap1) (hs.map (·.text))) (hl : hs.length ≤ 100) (hx : ∀ h ∈ hs, h.text.size ≤ 300000) :
    Calls Tryz.prog 14 #[.slice a0 hs.length cap0, .slice a1 hs.length cap1] w fun e w' => ∃ v' ids, e = .returned v' ∧ Chain (hs.map (·.text.data.toList)) ids ∧ w'.ownsRow w.heap.size 52 4 v' hs.length ((secsOf hs ids).flatMap Sec.cells) ∧ Below w.heap.size w w' := by
  have HU := Lib.hid hu
  have HV := Lib.hid hv
  have HT := Lib.hid hT
  have HLOW := Lib.hid hT.low
  have HX := Lib.hid hx
  clear hu hv hT hx
  obtain ⟨i0, hi, hz0, hz1, hz2⟩ := info_parts info_str
  have HI0 : Hid (Tryz.prog.info? 9 = some i0 ∧ i0.zero = some (.string ⟨#[]⟩) ∧ i0.size = 1 ∧ i0.bytes = 16) := ⟨hi, hz0, hz1, hz2⟩
  clear hi hz0 hz1 hz2
  obtain ⟨j0, hi, hz0, hz1, hz2⟩ := info_parts info_sec
  have HJ0 : Hid (Tryz.prog.info? 52 = some j0 ∧ j0.zero = some (.agg #[.int .i64 0, .string ⟨#[]⟩, .string ⟨#[]⟩, .string ⟨#[]⟩]) ∧ j0.size = 4 ∧ j0.bytes = 56) := ⟨hi, hz0, hz1, hz2⟩
  clear hi hz0 hz1 hz2
  have hli : (hs.length : Int) ≤ 100 := by omega
  have cNums := rnums_any (w := w) (.slice a0 hs.length cap0) (hs.map (·.level)) HU.out (by rw [List.length_map]; omega)
  rw [List.length_map] at cNums
  go_enter Tryz.func14, Tryz.ntmps14
  go_wp2_with fail
  refine cNums.mono ?_
  rintro e w2 ⟨nv, rfl, hrow, hb2⟩
  clear cNums
  obtain ⟨a2, cap2, rfl⟩ : ∃ a2 cap2, nv = .slice a2 hs.length cap2 := by
    rcases hrow.2 with ⟨rfl, h0⟩ | ⟨g, c, cur, rfl, _⟩
    · rw [h0]; exact ⟨_, _, rfl⟩
    · exact ⟨_, _, rfl⟩
  have HN := Lib.hid hrow
  have HB2 := Lib.hid hb2
  have HU2 := Lib.hid (HU.out.below hb2)
  have HV2 := Lib.hid (HV.out.below hb2)
  have HT2 := Lib.hid (HT.out.under HLOW.out hb2)
  have HW2 := Lib.hid hb2.size
  clear hrow hb2 HU HV
  go_wp2_with fail
  go_loopw [5, 6, 8] (fun ou hd i wr => ∃ (k : Nat) (out hd' : Value) (L : List ByteArray), k ≤ hs.length ∧ i = .int .i64 k ∧ out = ou ∧ hd' = hd ∧ Hid (RSecSt w2 hs k hd' out L wr)) (fun _ _ i _ => hs.length - (RowKit.intOf i).toNat)
  case atStart => exact ⟨0, _, _, [], Nat.zero_le _, rfl, rfl, rfl, Lib.hid ⟨Chain.nil, World.ownsRow_nil _ _ _ _, World.ownsRow_nil _ _ _ _, Below.refl _ _⟩⟩
  case round =>
    obtain ⟨k, out, hd, L, hk, rfl, rfl, rfl, hS⟩ := hrel
    by_cases hlt : k < hs.length
    · have hLL := Lib.hid (hS.out.len hk)
      obtain ⟨b0, o0, rfl, hb0, hc0⟩ := HU2.out.cells (by rw [List.length_map]) (by rw [List.length_map]; omega)
      obtain ⟨b1, o1, rfl, hb1, hc1⟩ := names_cellsR HV2.out (by rw [List.length_map]) (by rw [List.length_map]; omega)
      obtain ⟨N, hN1, hN2⟩ := text_at (l := hs.map (·.level)) (k := k) (by rw [List.length_map]; exact hlt)
      obtain ⟨g2, rfl⟩ : ∃ g2 : Nat, a2 = some ⟨g2, 0, none⟩ := by
        obtain ⟨g, c, h, -⟩ := row_some HN.out (by rw [List.length_map]; unfold texts; rw [List.length_map, allN_len, List.length_map]; omega)
        simp only [Value.slice.injEq] at h
        exact ⟨g, h.1⟩
      have cn2 : w2.cell? ⟨g2, k, none⟩ = some (.string N) := by rw [HN.out.cellAt k (by omega)]; exact hN1
      have hg2 := World.block_lt_of_cell? w2 ⟨g2, k, none⟩ cn2
      have cl2 := hc0 k (by rw [List.length_map]; exact hlt)
      have ct2 := hc1 k (by rw [List.length_map]; exact hlt)
      rw [List.getElem_map] at cl2 ct2
      have hxt := HX.out hs[k] (List.getElem_mem hlt)
      have hN3 : N.data.toList = numK (stC ((hs.take k).map (·.level))) hs[k].level := by rw [hN2, List.map_take, List.getElem_map]
      obtain ⟨⟨lev, txt⟩, hh⟩ : ∃ h, hs[k] = h := ⟨_, rfl⟩
      rw [hh] at cl2 ct2 hxt hN3
      replace hh := Lib.hid hh
      simp only at cl2 ct2 hxt hN3
      have HN3 := Lib.hid hN3
      have H3 := Lib.hid (fun (W : World) (hb : Below w2.heap.size w2 W) => (⟨(hb.cell (p := ⟨b0, o0 + k, none⟩) hb0).trans cl2, (hb.cell (p := ⟨g2, k, none⟩) hg2).trans cn2, (hb.cell (p := ⟨b1, o1 + k, none⟩) hb1).trans ct2⟩ : W.cell? ⟨b0, o0 + k, none⟩ = some (.int .i64 lev) ∧ W.cell? ⟨g2, k, none⟩ = some (.string N) ∧ W.cell? ⟨b1, o1 + k, none⟩ = some (.string txt)))
      have ctr := (H3.out wr hS.out.below).2.2
      have hk0 : (0 : Int) ≤ (k : Int) := by omega
      have hk1 : (k : Int) < hs.length := by omega
      have cAn := refAnchor_any (w := wr) hd L txt (namesIn_row hS.out.had) (by rw [hLL.out]; omega) (HT2.out.on hS.out.below) hxt
      have hm1 : L.length + 1 ≤ maxLen := by have := hLL.out; unfold maxLen; omega
      have hm2 : (L.length + 1) * 16 ≤ 140737488355328 := by have := hLL.out; omega
      have hm3 : k + 1 ≤ maxLen := by unfold maxLen; omega
      clear hc0 hc1 hN1 hN2 hN3 cl2 ct2 cn2 hg2 hb0 hb1
      go_wp2_with fail
      refine cAn.mono ?_
      rintro e w3 ⟨ID, rfl, hnx, hidz, hb3⟩
      have HS3 := Lib.hid (hS.out.on hb3)
      have HNX := Lib.hid hnx
      have hba : w2.heap.size ≤ (w3.alloc (.cells #[.string ID] 9)).heap.size := by have := HS3.out.below.size; simp; omega
      clear cAn hb3 hnx ctr hS
      go_wp2_with (at_builtin; refine wpList_append_any rfl (.tmp 24) (.tmp 26) 23 rfl w2.heap.size 9 i0 (.string ⟨#[]⟩) 1 16 Tryz.underlying23 HI0.out.1 HI0.out.2.1 HI0.out.2.2.1 HI0.out.2.2.2 rfl (by decide) hd L.length (L.map .string) rfl (HS3.out.had.alloc _) (some ⟨w3.heap.size, 0, none⟩) 1 1 [.string ID] rfl rfl (fun h => by cases h) (news_at rfl _ _) (fun u hu => by rw [List.mem_singleton.1 hu]; rfl) hm1 hm2 hba ?_; intro hd' w4 hown4 hgr4 hblk4; have HM := Lib.hid (HS3.out.mid hown4 hgr4); clear hown4 hgr4 hblk4)
      have HCH := Lib.hid HS3.out.chain
      have HMD := Lib.hid (HM.out.on (Below.refl _ _).drew)
      obtain ⟨cl4, cn4, ct4⟩ := H3.out w4 HM.out.below
      go_region_held3 (fun w' => w'.cell? ⟨b0, o0 + k, none⟩ = some (.int .i64 lev) ∧ w'.cell? ⟨g2, k, none⟩ = some (.string N) ∧ w'.cell? ⟨b1, o1 + k, none⟩ = some (.string txt))
        (first
          | go_keep
          | exact H3.out _ hBA)
        (first
          | (refine step_append_any (wanted_none rfl) (.tmp 28) (.tmp 43) 42 rfl w2.heap.size 52 j0 _ 4 56 Tryz.underlying42 HJ0.out.1 HJ0.out.2.1 HJ0.out.2.2.1 HJ0.out.2.2.2 rfl (by decide) out k _ rfl (HMD.out.row.alloc _) (some ⟨w4.drew.heap.size, 0, none⟩) 1 1 (Sec.cells ⟨lev, N, ID, txt⟩) rfl rfl (fun h => by cases h) (fun ad had j u hu => by cases had; exact World.news_of_block (heap_alloc_new _ _) j u hu) (fun u hu => flat_one [⟨lev, N, ID, txt⟩] u (by simpa using hu)) hm3 (by omega) (by have := HM.out.below.size; simp; omega) ?_; intro v' wA hownA hkeepA hgrA hblkA; have hST := HMD.out.next HCH.out hlt hh.out HNX.out HN3.out hownA hgrA; have hBA : Below w2.heap.size w2 wA := hST.below))
      have HST := Lib.hid hST
      clear hownA hkeepA hgrA hblkA hST hBA cl4 cn4 ct4
      go_wp2_with fail
      go_roundw
      case rel => exact ⟨k + 1, v', hd', _, by omega, by go_num, rfl, rfl, HST⟩
      case measure => simp only [RowKit.intOf]; omega
    · obtain rfl : k = hs.length := by omega
      have hC := hS.out.chain
      have hR := hS.out.row
      rw [List.take_length] at hC hR
      have HC := Lib.hid hC
      have HR := Lib.hid (row_base hR HW2.out)
      have HB9 := Lib.hid (HB2.out.trans (hS.out.below.mono HW2.out))
      clear hC hR hS
      go_wp2_with fail
      go_ret
      exact ⟨out, _, rfl, HC.out, HR.out, HB9.out⟩
end Go.Proofs.YtbblgnbafecdmaaGreatDoor
