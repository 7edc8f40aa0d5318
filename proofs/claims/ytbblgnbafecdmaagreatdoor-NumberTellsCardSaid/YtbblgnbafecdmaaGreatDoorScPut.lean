/- (*bowdlerbook.Book).stillSecs and putSecs: the walks. -/
import Derived.Test.YtbblgnbafecdmaaGreatDoorScVs
import Derived.StillTailTactics
import Derived.Lib.QuietBelow
namespace Go.Proofs.YtbblgnbafecdmaaGreatDoor.bk
open Go.RowKit Go.Lib

set_option maxHeartbeats 1000000 in
theorem still_secs {base : Nat} {F : Nat → Prop} {b : Nat} {vS vX : Value} {vs : List Value} {Ls : List (List Sec)} {w : World} (h : BookSc base F b vS vX vs Ls w) (hn : vs.length ≤ 250) (hL : ∀ L ∈ Ls, L.length ≤ 100000) :
    Calls Tryz.prog 31 #[.pointer (some ⟨b, 0, none⟩)] w fun e w' => e = .returned (.bool true) ∧ Below w.heap.size w w' := by
  obtain ⟨vT, vW, hB, hK⟩ := h.st
  obtain ⟨ws, hwl, hW, hws, -⟩ := hK.copies
  have hlen := hK.len
  rw [List.length_map] at hlen
  obtain ⟨a1, cap1, rfl, hc1⟩ := row_form hK.rowT
  obtain ⟨a2, cap2, rfl, hc2⟩ := row_form hW
  have hbl := hB.lt
  have HB := Lib.hid hB
  have HK := Lib.hid hK
  have HW := Lib.hid hW
  have HWS := Lib.hid hws
  have HWL := Lib.hid hwl
  have HLEN := Lib.hid hlen
  have HL := Lib.hid hL
  have hni : (vs.length : Int) ≤ 250 := by omega
  have hwn : ws.length ≤ 250 := by omega
  clear h hB hK hW hws hwl hlen hL
  go_enter Tryz.func31, Tryz.ntmps31
  go_wp2_with fail
  go_loopw [3] (fun i wr => ∃ k : Nat, k ≤ vs.length ∧ i = .int .i64 k ∧ Below w.heap.size w wr) (fun i _ => vs.length - (RowKit.intOf i).toNat)
  case atStart => exact ⟨0, Nat.zero_le _, rfl, Below.refl _ _⟩
  case round =>
    obtain ⟨k, hk, rfl, hBw⟩ := hrel
    have c0 : wr.cell? ⟨b, 12, none⟩ = some (.slice a1 vs.length cap1) := (hBw.cell (p := ⟨b, 12, none⟩) hbl).trans (HB.out.cell 12)
    have c1 : wr.cell? ⟨b, 13, none⟩ = some (.slice a2 ws.length cap2) := (hBw.cell (p := ⟨b, 13, none⟩) hbl).trans (HB.out.cell 13)
    by_cases hlt : k < vs.length
    · obtain ⟨g1, cc1, he1, -⟩ := row_some HK.out.rowT (by omega)
      obtain ⟨g2, cc2, he2, -⟩ := row_some HW.out (by rw [HWL.out]; omega)
      cases he1
      cases he2
      have hg1 := (HK.out.rowT.lt g1 rfl).2
      have hg2 := (HW.out.lt g2 rfl).2
      have hwk : k < ws.length := by rw [HWL.out]; exact hlt
      have hLk : k < Ls.length := by rw [← HLEN.out]; exact hlt
      have ck : wr.cell? ⟨g1, k, none⟩ = some vs[k] := by
        rw [hBw.cell (p := ⟨g1, k, none⟩) hg1, HK.out.rowT.cellAt k (by omega), List.getElem?_eq_getElem hlt]
      have cw : wr.cell? ⟨g2, k, none⟩ = some ws[k] := by
        rw [hBw.cell (p := ⟨g2, k, none⟩) hg2, HW.out.cellAt k (by omega), List.getElem?_eq_getElem hwk]
      have hX : (Ls.map secX)[k]? = some (secX Ls[k]) := by rw [List.getElem?_map, List.getElem?_eq_getElem hLk]; rfl
      have r1 := row_kept (HK.out.rows k vs[k] _ (List.getElem?_eq_getElem hlt) hX) (fun g hg => hBw.block g ((HK.out.rows k vs[k] _ (List.getElem?_eq_getElem hlt) hX).lt g hg).2)
      have r2 := row_kept (HWS.out k ws[k] _ (List.getElem?_eq_getElem hwk) hX) (fun g hg => hBw.block g ((HWS.out k ws[k] _ (List.getElem?_eq_getElem hwk) hX).lt g hg).2)
      have hLl := HL.out Ls[k] (List.getElem_mem _)
      have hki : (k : Int) < vs.length := by omega
      have hkw : (k : Int) < ws.length := by omega
      have hk0 : (0 : Int) ≤ (k : Int) := by omega
      clear hX
      generalize vs[k] = v at *
      generalize ws[k] = u at *
      generalize Ls[k] = L at *
      have R1 := Lib.hid (secsW_row (L := L) r1)
      have R2 := Lib.hid (secsW_row (L := L) r2)
      clear r1 r2
      have cc : ∀ d os, Calls Tryz.prog 13 #[v, u] (Sort.grow (redrawn wr d) os) fun e w'' => e = .returned (.bool true) ∧ ∃ p : Regrown, w'' = Sort.grow (redrawn wr p.d) p.os := fun d os => Calls.regrown_of ((same_secs v u L L (R1.out.below (below_regrown wr d os)) (R2.out.below (below_regrown wr d os)) hLl hLl).mono (fun e w' h => by rw [sameS_refl] at h; exact h))
      have hq0 : ∀ d os, (Sort.grow (redrawn wr d) os).cell? ⟨b, 12, none⟩ = some (.slice (some ⟨g1, 0, none⟩) vs.length cap1) := fun d os => ((below_regrown wr d os).cell (p := ⟨b, 12, none⟩) (World.block_lt_of_cell? _ _ c0)).trans c0
      have hq1 : ∀ d os, (Sort.grow (redrawn wr d) os).cell? ⟨b, 13, none⟩ = some (.slice (some ⟨g2, 0, none⟩) ws.length cap2) := fun d os => ((below_regrown wr d os).cell (p := ⟨b, 13, none⟩) (World.block_lt_of_cell? _ _ c1)).trans c1
      have hq2 : ∀ d os, (Sort.grow (redrawn wr d) os).cell? ⟨g1, k, none⟩ = some v := fun d os => ((below_regrown wr d os).cell (p := ⟨g1, k, none⟩) (World.block_lt_of_cell? _ _ ck)).trans ck
      have hq3 : ∀ d os, (Sort.grow (redrawn wr d) os).cell? ⟨g2, k, none⟩ = some u := fun d os => ((below_regrown wr d os).cell (p := ⟨g2, k, none⟩) (World.block_lt_of_cell? _ _ cw)).trans cw
      go_wp2_with fail
      refine wp_region_quiet_below (by kernel_rfl) (by kernel_rfl) ?_
      repeat (quiet_step (exact cc _ _))
      refine wpQuiet_nil ?_
      intro _ hw'
      obtain ⟨⟨dq, osq⟩, hw''⟩ := hw'
      subst hw''
      have hbr := below_regrown wr dq osq
      have HBw := Lib.hid (hBw.trans (hbr.mono hBw.size))
      clear hbr cc c0 c1 ck cw hq0 hq1 hq2 hq3
      go_wp2_with fail
      go_roundw
      case rel => exact ⟨k + 1, by omega, by go_num, HBw.out⟩
      case measure => simp only [RowKit.intOf]; omega
    · go_wp2_with fail
      go_ret
      exact ⟨rfl, hBw⟩

theorem secs_set : ∀ (l : List Sec) (q : Nat) (X : Sec), ((((l.flatMap Sec.cells).set (q * 4) (.int .i64 X.level)).set (q * 4 + 1) (.string X.number)).set (q * 4 + 2) (.string X.anchor)).set (q * 4 + 3) (.string X.text) = (l.set q X).flatMap Sec.cells
  | [], _, _ => rfl
  | _ :: _, 0, _ => rfl
  | x :: l, q + 1, X => by
    have ih := secs_set l q X
    rw [List.set_cons_succ, List.flatMap_cons, List.flatMap_cons, ← ih, show (q + 1) * 4 = q * 4 + 4 by omega]
    rfl

def SPutPost (base : Nat) (F : Nat → Prop) (b : Nat) (vT vW vS vX : Value) (vs : List Value) (Ls : List (List Sec)) (w : World) (e : Ending) (w' : World) : Prop :=
  e = .returned (.tuple #[]) ∧ BookVc base F b vT vW vS vX vs (smarked vs.length Ls) w' ∧ Frame F w w'

set_option maxRecDepth 100000 in
set_option maxHeartbeats 2000000 in
theorem put_secs {base : Nat} {F : Nat → Prop} {b : Nat} {vT vW vS vX : Value} {vs : List Value} {Ls : List (List Sec)} {w : World} (h : BookVc base F b vT vW vS vX vs (Ls.map secX) w) (hn : vs.length ≤ 250) (hL : ∀ L ∈ Ls, L.length ≤ 90000) :
    Calls Tryz.prog 39 #[.pointer (some ⟨b, 0, none⟩)] w (SPutPost base F b vT vW vS vX vs Ls w) := by
  have hlen := h.vs_.len
  rw [List.length_map] at hlen
  obtain ⟨a1, cap1, rfl, hc1⟩ := row_form h.vs_.rowT
  have HLEN := Lib.hid hlen
  have HL := Lib.hid hL
  have H := Lib.hid h
  have hni : (vs.length : Int) ≤ 250 := by omega
  clear h hlen hL
  go_enter Tryz.func39, Tryz.ntmps39
  go_wp2_with fail
  go_loopw [2] (fun i wr => ∃ k : Nat, k ≤ vs.length ∧ i = .int .i64 k ∧ Hid (BookVc base F b (.slice a1 vs.length cap1) vW vS vX vs (smarked k Ls) wr) ∧ Hid (Frame F w wr)) (fun i _ => vs.length - (RowKit.intOf i).toNat)
  case atStart => exact ⟨0, Nat.zero_le _, rfl, Lib.hid (by rw [smarked_zero]; exact H.out), Lib.hid (Frame.refl _ _)⟩
  case round =>
    obtain ⟨k, hk, rfl, HV, HF⟩ := hrel
    have c0 : wr.cell? ⟨b, 12, none⟩ = some (.slice a1 vs.length cap1) := HV.out.at_.cell 12
    by_cases hlt : k < vs.length
    · obtain ⟨g1, cc1, he1, -⟩ := row_some HV.out.vs_.rowT (by omega)
      cases he1
      have hLk : k < Ls.length := by rw [← HLEN.out]; exact hlt
      have ck : wr.cell? ⟨g1, k, none⟩ = some vs[k] := by rw [HV.out.vs_.rowT.cellAt k (by omega), List.getElem?_eq_getElem hlt]
      have hvk := Lib.hid (List.getElem?_eq_getElem hlt)
      have hX : (smarked k Ls)[k]? = some (secX Ls[k]) := by rw [smarked_at k Ls k hLk, if_neg (by omega)]
      have HX := Lib.hid hX
      have hms := Lib.hid (smarked_succ k Ls hLk)
      have r1 : wr.ownsRow base 52 4 vs[k] Ls[k].length (Ls[k].flatMap Sec.cells) := HV.out.vs_.rows k vs[k] _ hvk.out hX
      have hLl := HL.out Ls[k] (List.getElem_mem _)
      have hki : (k : Int) < vs.length := by omega
      have hk0 : (0 : Int) ≤ (k : Int) := by omega
      clear hX
      generalize vs[k] = v at *
      generalize Ls[k] = L at *
      obtain ⟨av, cv, rfl, hcv⟩ := row_form r1
      have R1 := Lib.hid r1
      clear r1
      have hml := Lib.hid (smarks_len k 0 L.length)
      go_wp2_with fail
      refine (mark_secs k 0 L.length (by omega) (by omega)).mono ?_
      rintro e w1 ⟨m, rfl, hM, hb1⟩
      obtain ⟨am, cm, rfl, hcm⟩ := row_form hM
      have hV1 := HV.out.below hb1
      have hF1 := HF.out.trans (Frame.of_below (F := F) hb1) (fun _ h => .inl h)
      have hR1 := row_on R1.out hb1
      have HM := Lib.hid hM
      have HV1 := Lib.hid hV1
      have HF1 := Lib.hid hF1
      have hmx := Lib.hid (fun q h => smix_succ (smarks k 0 L.length) L q hml.out h)
      have hB1 := Lib.hid hb1
      have hav : ∀ g, (Value.slice av L.length cv).ownBlock = some g → F g := fun g hg => HV.out.vs_.inV _ (List.mem_of_getElem? hvk.out) g hg
      have HAV := Lib.hid hav
      have HR1 := Lib.hid (show w1.ownsRow base 52 4 (.slice av L.length cv) L.length ((((smarks k 0 L.length).take 0 ++ L.drop 0)).flatMap Sec.cells) by rw [smix_zero]; exact hR1)
      clear hM hb1 hV1 hF1 hR1 c0 ck hav
      go_wp2_with fail
      go_loopw [4] (fun kk wx => ∃ q : Nat, q ≤ L.length ∧ kk = .int .i64 q ∧ Hid (wx.ownsRow base 52 4 (.slice av L.length cv) L.length ((((smarks k 0 L.length).take q ++ L.drop q)).flatMap Sec.cells)) ∧ Hid (Frame (fun g => (Value.slice av L.length cv).ownBlock = some g) w1 wx)) (fun kk _ => L.length - (RowKit.intOf kk).toNat)
      case atStart => exact ⟨0, Nat.zero_le _, rfl, HR1, Lib.hid (Frame.refl _ _)⟩
      case round =>
        obtain ⟨q, hq, rfl, HQ, HFQ⟩ := hrel
        have hRv := HV1.out.vs_.rows k _ _ hvk.out HX.out
        have hbne : ∀ g, (Value.slice av L.length cv).ownBlock = some g → ¬ g = b := fun g hg e => row_not_struct hRv HV1.out.at_ (by decide) (by rw [hg, e])
        have c0 : wr.cell? ⟨b, 12, none⟩ = some (.slice (some ⟨g1, 0, none⟩) vs.length cap1) := (HV1.out.at_.kept (HFQ.out.block b HV1.out.at_.lt (fun hg => hbne b hg rfl))).cell 12
        have hrT := HFQ.out.row HV1.out.vs_.rowT (fun g hg hG => rows_apart hRv HV1.out.vs_.rowT (by decide) g hG hg)
        have hki2 : k < vs.length := by omega
        have ck : wr.cell? ⟨g1, k, none⟩ = some (.slice av L.length cv) := by rw [hrT.cellAt k (by omega), hvk.out]
        by_cases hlq : q < L.length
        · obtain ⟨gm, cm', hme, -⟩ := row_some HM.out (by rw [secs_len4, hml.out]; omega)
          obtain ⟨gv, cv', hve, -⟩ := row_some HQ.out (by rw [secs_len4, smix_len _ _ _ hml.out (by rw [hml.out]; omega)]; omega)
          cases hme
          cases hve
          have hmm := HFQ.out.row HM.out (fun g hg hG => by
            have h1 := (HM.out.lt g hg).1
            have h2 := (R1.out.lt g hG).2
            omega)
          have hqm : q < (smarks k 0 L.length).length := by rw [hml.out]; exact hlq
          have hmc := fun j (hj : j < 4) => (hmm.cellAt (q * 4 + j) (by omega)).trans (secs_get (smarks k 0 L.length) q j hqm hj)
          have cm0 : wr.cell? ⟨gm, q * 4, none⟩ = some (.int .i64 ((smarks k 0 L.length)[q]'hqm).level) := hmc 0 (by omega)
          have cm1 : wr.cell? ⟨gm, q * 4 + 1, none⟩ = some (.string ((smarks k 0 L.length)[q]'hqm).number) := hmc 1 (by omega)
          have cm2 : wr.cell? ⟨gm, q * 4 + 2, none⟩ = some (.string ((smarks k 0 L.length)[q]'hqm).anchor) := hmc 2 (by omega)
          have cm3 : wr.cell? ⟨gm, q * 4 + 3, none⟩ = some (.string ((smarks k 0 L.length)[q]'hqm).text) := hmc 3 (by omega)
          have hxl : q < ((smarks k 0 L.length).take q ++ L.drop q).length := by rw [smix_len _ _ _ hml.out (by rw [hml.out]; omega)]; exact hlq
          have hgc := fun j (hj : j < 4) => (HQ.out.cellAt (q * 4 + j) (by omega)).trans (secs_get ((smarks k 0 L.length).take q ++ L.drop q) q j hxl hj)
          obtain ⟨o0, cg0⟩ : ∃ old, wr.cell? ⟨gv, q * 4, none⟩ = some old := ⟨_, hgc 0 (by omega)⟩
          obtain ⟨o1, cg1⟩ : ∃ old, wr.cell? ⟨gv, q * 4 + 1, none⟩ = some old := ⟨_, hgc 1 (by omega)⟩
          obtain ⟨o2, cg2⟩ : ∃ old, wr.cell? ⟨gv, q * 4 + 2, none⟩ = some old := ⟨_, hgc 2 (by omega)⟩
          obtain ⟨o3, cg3⟩ : ∃ old, wr.cell? ⟨gv, q * 4 + 3, none⟩ = some old := ⟨_, hgc 3 (by omega)⟩
          have fg0 : wr.frozen? ⟨gv, q * 4, none⟩ = false := HQ.out.frozenAt (q * 4)
          have fg1 : wr.frozen? ⟨gv, q * 4 + 1, none⟩ = false := HQ.out.frozenAt (q * 4 + 1)
          have fg2 : wr.frozen? ⟨gv, q * 4 + 2, none⟩ = false := HQ.out.frozenAt (q * 4 + 2)
          have fg3 : wr.frozen? ⟨gv, q * 4 + 3, none⟩ = false := HQ.out.frozenAt (q * 4 + 3)
          have HMX := Lib.hid (hmx.out q hqm)
          generalize (smarks k 0 L.length)[q]'hqm = X at *
          obtain ⟨x0, x1, x2, x3⟩ := X
          simp only at cm0 cm1 cm2 cm3
          clear hmc hgc hxl hqm
          have hqi : (q : Int) < L.length := by omega
          have hq0 : (0 : Int) ≤ (q : Int) := by omega
          clear hmm hrT hRv hbne
          go_wp2_with fail
          go_still_tail 13, (by kernel_rfl)
          go_wp2_with fail
          have s0 := HQ.out.stored (q * 4) (.int .i64 x0)
          have s1 := s0.1.stored (q * 4 + 1) (.string x1)
          have s2 := s1.1.stored (q * 4 + 2) (.string x2)
          have s3 := s2.1.stored (q * 4 + 3) (.string x3)
          have s4 := s3.1
          rw [secs_set _ q ⟨x0, x1, x2, x3⟩, HMX.out] at s4
          have f0 := Frame.of_grown (F := fun g => (Value.slice (some ⟨gv, 0, none⟩) L.length cv).ownBlock = some g) s0.2 (fun k hk => hk)
          have f1 := Frame.of_grown (F := fun g => (Value.slice (some ⟨gv, 0, none⟩) L.length cv).ownBlock = some g) s1.2 (fun k hk => hk)
          have f2 := Frame.of_grown (F := fun g => (Value.slice (some ⟨gv, 0, none⟩) L.length cv).ownBlock = some g) s2.2 (fun k hk => hk)
          have f3 := Frame.of_grown (F := fun g => (Value.slice (some ⟨gv, 0, none⟩) L.length cv).ownBlock = some g) s3.2 (fun k hk => hk)
          have ff := (((HFQ.out.trans f0 (fun _ h => .inl h)).trans f1 (fun _ h => .inl h)).trans f2 (fun _ h => .inl h)).trans f3 (fun _ h => .inl h)
          refine ⟨⟨q + 1, by omega, by go_num, Lib.hid (row_kept s4 (fun g hg => rfl)), Lib.hid ?_⟩, by simp only [RowKit.intOf]; omega⟩
          exact ff.trans (Frame.of_below (F := fun _ => False) (Below.refl _ _).drew) (fun _ h => h.elim)
        · obtain rfl : q = L.length := by omega
          have hfull := HQ.out
          rw [smix_full _ _ _ hml.out hml.out.symm] at hfull
          have hch := HV1.out.change hvk.out HX.out HFQ.out (Y := secX (smarks k 0 L.length)) (by unfold secX; rw [hml.out]; exact hfull)
          rw [← hms.out] at hch
          have HCH := Lib.hid hch
          have HFF := Lib.hid (HF1.out.trans HFQ.out (fun g hg => .inl (HAV.out g hg)))
          clear hfull hch hrT hRv hbne
          go_wp2_with fail
          go_roundw
          case rel => exact ⟨k + 1, by omega, by go_num, HCH, HFF⟩
          case measure => simp only [RowKit.intOf]; omega
    · go_wp2_with fail
      go_end0
      have : k = vs.length := by omega
      subst this
      exact ⟨rfl, HV.out, HF.out⟩
end Go.Proofs.YtbblgnbafecdmaaGreatDoor.bk
