/- (*html.Writer).Blocks: the walk. Printed by gen_blocks.py. -/
import Derived.Test.YtpabackkapgkpaaGreatDoorHBlkPre
namespace Go.Proofs.YtpabackkapgkpaaGreatDoor
open Go.RowKit Go.Lib

set_option maxHeartbeats 16000000 in
set_option maxRecDepth 100000 in
theorem blocks_any {w0 w : World} {Fn : Nat → Prop} {wb nb : Nat} {c : Cfg} {L : List ByteArray} {C : List Int} {vb vt : Value} {bs : List Blk} {texts : List (List Inl)} (hB : Below w0.heap.size w0 w) (hW : WriterAt w Fn c wb nb) (hN : NotesAt 35 w0.heap.size Fn nb L C w) (hT : Tabs w0) (hcp : ∀ x ∈ bs, x.kind = 1 → c.Small) (hBF : ∀ x ∈ bs, ∀ (heads k R i : Nat) (s : HSt), heads < bs.length → BFits i s → Fits (100 + R) s → BFits (i + 1) (blockS c texts x heads k s) ∧ Fits R (blockS c texts x heads k s)) (P : Nat → List Inl → Prop) (hPP : ∀ heads k, heads < bs.length → P heads (textOf texts k))
    (hb : BlksIn w Fn vb bs) (ht : TextsIn w Fn vt texts) (hs : ∀ x ∈ bs, x.Small) (hts : TextsSmall texts) (hf : Fits (100 * bs.length) ⟨[], L, C, [], []⟩) (hl : bs.length ≤ 500)
    (hH : ∀ x ∈ bs, x.kind = 2 → HeadOk P w0 Fn c wb nb x) (hC : ∀ x ∈ bs, x.kind = 6 → PutOk 40 w0 Fn c wb nb x (codeL x)) (hR : ∀ x ∈ bs, x.kind = 8 → PutOk 41 w0 Fn c wb nb x (rawL c x)) :
    Calls Tryz.prog 19 #[.pointer (some ⟨wb, 0, none⟩), vb, vt] w (InlPost w0 w Fn nb (blocksF c texts bs 0 0 ⟨[], L, C, [], []⟩)) := by
  obtain ⟨ta, tcap, rfl, htl⟩ : ∃ a cap, vt = .slice a texts.length cap ∧ TextsIn w Fn (.slice a texts.length cap) texts := by obtain ⟨a, cap, rfl, r⟩ := ht; exact ⟨a, cap, rfl, a, cap, rfl, r⟩
  obtain ⟨ba, bcap, rfl, hbc, hbm, hat⟩ := hb
  have hbw := hB.size
  have hb1 := (Below.refl w.heap.size w).alloc (Nat.le_refl _) (.cells #[.slice ta texts.length tcap] 60)
  obtain ⟨w1, hw1⟩ : ∃ w1, w1 = w.alloc (.cells #[.slice ta texts.length tcap] 60) := ⟨_, rfl⟩
  have htc : w1.cell? ⟨w.heap.size, 0, none⟩ = some (.slice ta texts.length tcap) := by rw [hw1, Lib.cell_of_heap (heap_alloc_new w _)]; rfl
  have hz1 : w1.heap.size = w.heap.size + 1 := by rw [hw1]; simp
  rw [← hw1] at hb1
  have HW1 := Lib.hid (hW.on hb1)
  have HT1 := Lib.hid (htl.on hb1)
  have hFw : ¬ Fn w.heap.size := fun h => by have := (hN.lt _ h).2; omega
  have HP := Lib.hid (fun w2 hb2 hp2 => PSt.fresh (w0 := w0) (w := w1) (w1 := w2) (Fn := Fn) (nb := nb) (wr := .pointer (some ⟨wb, 0, none⟩)) (L := L) (C := C) (hB.trans (hb1.mono hbw)) (hN.frame (Frame.of_below (F := fun _ => False) hb1) (fun _ _ h => h)) hb2 hp2)
  have HAT : Hid (bs = [] ∨ ∃ b o, ba = some ⟨b, o, none⟩ ∧ b < w1.heap.size ∧ ¬ Fn b ∧ ∀ i (h : i < bs.length), BlkAt w1 b (o + i * 6) bs[i]) := by
    rcases hat with h | ⟨g, o, e, h1, h2, h3⟩
    · exact .inl h
    · exact .inr ⟨g, o, e, by omega, h2, fun i hi => ⟨(hb1.cell (p := ⟨g, _, none⟩) h1).trans (h3 i hi).c0, (hb1.cell (p := ⟨g, _, none⟩) h1).trans (h3 i hi).c1, (hb1.cell (p := ⟨g, _, none⟩) h1).trans (h3 i hi).c2, (hb1.cell (p := ⟨g, _, none⟩) h1).trans (h3 i hi).c3, (hb1.cell (p := ⟨g, _, none⟩) h1).trans (h3 i hi).c4, (hb1.cell (p := ⟨g, _, none⟩) h1).trans (h3 i hi).c5⟩⟩
  have htb1 : w.heap.size < w1.heap.size := by omega
  replace hz1 := Lib.hid hz1
  have HBK := Lib.hid (fun (vd : Value) (s : HSt) (w' : World) (h : WrPost w0 w1 Fn nb s vd w') => h.back hb1)
  have HHH := Lib.hid hH
  have HCC := Lib.hid hC
  have HRR := Lib.hid hR
  have HS := Lib.hid hs
  have HPP := Lib.hid hPP
  have HBF0 := Lib.hid hBF
  have HCP := Lib.hid hcp
  have HTS := Lib.hid hts
  have HF := Lib.hid hf
  obtain ⟨i0, hi, hz0, hzs, hzb⟩ := info_parts info_block
  have HI0 : Hid (Tryz.prog.info? 92 = some i0 ∧ i0.zero = some (.agg #[.int .i64 0, .int .i64 0, .int .i64 0, .bool false, .string ⟨#[]⟩, .string ⟨#[]⟩, .string ⟨#[]⟩]) ∧ i0.size = 7 ∧ i0.bytes = 80) := ⟨hi, hz0, hzs, hzb⟩
  clear hPP hBF hcp hi hz0 hzs hzb hH hC hR hs hts hf hat hW hN ht htl
  go_enter Tryz.func19, Tryz.ntmps19
  go_wp2_with fail
  rw [← hw1]
  replace hw1 := Lib.hid hw1
  refine (paper_any wb w1).mono ?_
  rintro e w2 ⟨rfl, hb2, hp2⟩
  have P2 := Lib.hid (HP.out w2 hb2 hp2)
  have hs2 := hb2.size
  clear hb2 hp2 HP
  go_wp2_with fail
  have P3 := Lib.hid (PSt.hold P2.out (Counts.int 0))
  have R0 : Hid (BRel w0 w1 Fn w1.heap.size wb nb w2.heap.size c texts bs ⟨[], L, C, [], []⟩ 0 0 0 ⟨[], L, C, [], []⟩ (.slice none 0 0) (w2.alloc (.cells #[.int .i64 0] 3))) := ⟨P3.out, ⟨fun p hp => by (cases hp), fun p hp => by (cases hp), by simp, by simp⟩, by simpa using HF.out, rfl, Nat.le_refl _, Nat.le_refl _⟩
  clear P2 P3
  go_loopw [9, 10, 23] (fun vin vh vi wr => ∃ (i heads k : Nat) (s : HSt), i ≤ bs.length ∧ vi = .int .i64 i ∧ vh = .int .i64 heads ∧ Hid (BRel w0 w1 Fn w1.heap.size wb nb w2.heap.size c texts bs ⟨[], L, C, [], []⟩ i heads k s vin wr)) (fun _ _ vi _ => bs.length - (RowKit.intOf vi).toNat)
  case atStart => exact ⟨0, 0, 0, _, Nat.zero_le _, rfl, rfl, R0⟩
  case round =>
    clear R0
    obtain ⟨i, heads, k, s, hi, rfl, rfl, HR⟩ := hrel
    have hki := HR.out.hk
    have hhi := HR.out.hh
    by_cases hlt : i < bs.length
    · rcases HAT.out with h0 | ⟨g, o, rfl, hg, hGg, hat⟩
      · rw [h0] at hlt; simp at hlt
      have hold : ∀ j, wr.cell? ⟨g, j, none⟩ = w1.cell? ⟨g, j, none⟩ := fun j => by simp [World.cell?, HR.out.st.frame.block g hg hGg]
      have hx := HS.out _ (List.getElem_mem hlt)
      have q0 := (hold _).trans (hat i hlt).c0
      have q1 := (hold _).trans (hat i hlt).c1
      have q2 := (hold _).trans (hat i hlt).c2
      have q3 := (hold _).trans (hat i hlt).c3
      have q4 := (hold _).trans (hat i hlt).c4
      have q5 := (hold _).trans (hat i hlt).c5
      have HD := Lib.hid (List.drop_eq_getElem_cons hlt)
      have HX2 := Lib.hid (HHH.out _ (List.getElem_mem hlt))
      have HX0 := Lib.hid (HBF0.out _ (List.getElem_mem hlt))
      have HX1 := Lib.hid (HCP.out _ (List.getElem_mem hlt))
      have HX6 := Lib.hid (HCC.out _ (List.getElem_mem hlt))
      have HX8 := Lib.hid (HRR.out _ (List.getElem_mem hlt))
      generalize bs[i] = x at *
      have hrm : 100 * (bs.length - i) = 100 + 100 * (bs.length - (i + 1)) := by omega
      have hroom := HR.out.room
      rw [hrm] at hroom
      obtain ⟨HBF, HFF⟩ : Hid (BFits (i + 1) (blockS c texts x heads k s)) ∧ Hid (Fits (100 * (bs.length - (i + 1))) (blockS c texts x heads k s)) := by
        have h9 := HX0.out heads k (100 * (bs.length - (i + 1))) i s (by omega) HR.out.fits hroom
        exact ⟨h9.1, h9.2⟩
      have HEQ := Lib.hid (show blocksF c texts (bs.drop (i + 1)) (headsN x heads) (kN x k) (blockS c texts x heads k s) = blocksF c texts bs 0 0 ⟨[], L, C, [], []⟩ by rw [← HR.out.eq, HD.out]; rfl)
      have hLF := leaveS_fits x.depth HR.out.fits
      have hLR := leaveF_less x.depth (100 + 100 * (bs.length - (i + 1))) s.stk s hroom
      have ho4 := hLF.out
      have hd4 := hLF.deep
      have HLR := Lib.hid (show Fits (100 + 100 * (bs.length - (i + 1))) (leaveS x.depth s) from hLR)
      obtain ⟨hl1, hl2⟩ := holderL_length hx
      have hki0 : (i : Int) < bs.length := by omega
      have hki1 : (0 : Int) ≤ (i : Int) := by omega
      have hxd := hx.depth
      have HXS := Lib.hid hx
      obtain ⟨htx1, htx2⟩ := textOf_small HTS.out k
      have HTX := Lib.hid htx2
      obtain ⟨kd, dp, nn, ti, tx, inf⟩ := x
      simp only at q0 q1 q2 q3 q4 q5 hxd
      clear hat hold hroom hLR hx htx2 HD
      go_wp2_with fail
      have PX := Lib.hid (PSt.hold HR.out.st (Counts.blk ⟨kd, dp, nn, ti, tx, inf⟩))
      have hkq : withB (kOf w2.heap.size k) wr.heap.size (Obj.cells (Blk.cells ⟨kd, dp, nn, ti, tx, inf⟩).toArray 50) w2.heap.size = some (.cells #[.int .i64 k] 3) := by
        have h9 := (Array.getElem?_eq_some_iff.1 (HR.out.st.ctr w2.heap.size (.cells #[.int .i64 k] 3) (by simp [kOf, withB])).1).1
        simp only [withB, kOf]; rw [if_neg (by omega)]; simp
      have hwk : w2.heap.size < wr.heap.size := (Array.getElem?_eq_some_iff.1 (HR.out.st.ctr w2.heap.size (.cells #[.int .i64 k] 3) (by simp [kOf, withB])).1).1
      obtain ⟨xb, hxb⟩ : ∃ xb, wr.heap.size = xb := ⟨_, rfl⟩
      obtain ⟨kq2, hkq2⟩ : ∃ kq2, withB (kOf w2.heap.size k) wr.heap.size (Obj.cells (Blk.cells ⟨kd, dp, nn, ti, tx, inf⟩).toArray 50) = kq2 := ⟨_, rfl⟩
      have hxq : kq2 xb = some (.cells #[.int .i64 kd, .int .i64 dp, .int .i64 nn, .bool ti, .string tx, .string inf] 50) := by rw [← hkq2, ← hxb]; simp only [withB]; rw [if_pos trivial]; rfl
      have hKQ := Lib.hid hkq2
      rw [hkq2] at PX hkq
      rw [hxb] at hwk
      have CB := Lib.hid (fun (v : Value) (s' : HSt) (w' : World) (h : PSt w0 w1 Fn ⟨v, kq2⟩ w1.heap.size (.pointer (some ⟨wb, 0, none⟩)) nb s' w') => cells_blk (h.ctr xb _ hxq).1)
      have cL := leave_any (d := dp) PX.out HR.out.fits (by omega)
      refine cL.mono ?_
      rintro e w4 ⟨v4, rfl, h4⟩
      have P4 := Lib.hid h4
      obtain ⟨r0, r1, r2, r3, r4, r5⟩ := CB.out _ _ _ h4
      have cH := holder_any (hT.on P4.out.below) HXS.out
      simp only [Blk.val] at cH
      clear h4 cL q0 q1 q2 q3 q4 q5 hkq2 hxq PX
      rw [hxb]
      go_wp2_with fail
      refine cH.mono ?_
      rintro e w5 ⟨A, E, rfl, hA, hE, hb5⟩
      have HE := Lib.hid (show E = ⟨(holderL ⟨kd, dp, nn, ti, tx, inf⟩).2.toArray⟩ from ba_eq (by rw [hE, ba_mk]))
      have P5 := Lib.hid (P4.out.on hb5)
      have cP := put_any P5.out hA (by omega)
      clear hA hE hb5 cH P4 r0 r1 r2 r3 r4 r5
      go_wp2_with fail
      refine cP.mono ?_
      rintro e w6 ⟨rfl, h6⟩
      have P6 := Lib.hid h6
      obtain ⟨r0, r1, r2, r3, r4, r5⟩ := CB.out _ _ _ h6
      clear h6 cP P5
      obtain ⟨s6, hs6⟩ : ∃ s6, (leaveS dp s).put (holderL ⟨kd, dp, nn, ti, tx, inf⟩).1 = s6 := ⟨_, rfl⟩
      have hs6o : s6.out.length ≤ 6000000000000 := by rw [← hs6]; simp only [HSt.put, List.length_append]; omega
      have hs6k : s6.stk.length ≤ 1000 := by rw [← hs6]; show (leaveS dp s).stk.length ≤ 1000; omega
      have HF6 := Lib.hid (show Fits (100 + 100 * (bs.length - (i + 1))) s6 by rw [← hs6]; exact HLR.out.put _)
      rw [hs6] at P6
      have HS6 := Lib.hid hs6
      clear hs6
      have hkq1 : w1.heap.size ≤ w2.heap.size := hs2
      by_cases k1 : kd = 1
      · skip
        subst k1
        go_wp2_with fail
        refine (tight_any dp (by omega) P6.out.stk hs6k).mono ?_
        rintro e w7 ⟨rfl, hb7⟩
        have P7 := Lib.hid (P6.out.on hb7)
        have cX := text_any P7.out hkq hkq1 htb1 hFw htc HT1.out (by omega)
        clear hb7 r0 r1 r2 r3 r4 r5
        go_wp2_with fail
        refine cX.mono ?_
        rintro e w8 ⟨vl, rfl, hvl, h8⟩
        have P8 := Lib.hid h8
        have cQ := para_any (tightS s6.stk dp) HW1.out hT (by first | exact HX1.out rfl | exact HX1.out trivial) P8.out hvl HTX.out (HF6.out.less (by omega)) (by omega)
        clear h8 cX P7 hvl
        go_wp2_with fail
        refine cQ.mono ?_
        rintro e w9 ⟨rfl, h9⟩
        have P9 := Lib.hid h9
        clear h9 cQ
        have hX9 : withB kq2 w2.heap.size (.cells #[.int .i64 ((k + 1 : Nat) : Int)] 3) xb = some (.cells #[.int .i64 1, .int .i64 dp, .int .i64 nn, .bool ti, .string tx, .string inf] 50) := by
          simp only [withB]; rw [if_neg (by omega), ← hKQ.out]; simp only [withB]; rw [if_pos hxb.symm]; rfl
        obtain ⟨r0, r1, r2, r3, r4, r5⟩ := cells_blk (P9.out.ctr xb _ hX9).1
        have hbody : Hid (paraS c (tightS s6.stk dp) (textOf texts k) s6 = bodyS c texts ⟨1, dp, nn, ti, tx, inf⟩ heads k s6) := by simp [Hid, bodyS]
        generalize paraS c (tightS s6.stk dp) (textOf texts k) s6 = s9 at *
        have hk9 : s9.stk.length = s6.stk.length := by rw [hbody.out]; exact bodyS_stk c texts _ heads k s6
        have hlet := Lib.hid (show ∀ q ob, kOf w2.heap.size (k + 1) q = some ob → withB kq2 w2.heap.size (.cells #[.int .i64 ((k + 1 : Nat) : Int)] 3) q = some ob from fun q ob hq => by
          simp only [kOf, withB] at hq ⊢
          by_cases e : q = w2.heap.size
          · rw [if_pos e] at hq ⊢; exact hq
          · rw [if_neg e] at hq; cases hq)

        obtain ⟨ax, capx, hvx⟩ := row_slice P9.out.stk
        dsimp only at hvx
        subst hvx
        have hown9 : w9.ownsRow w1.heap.size 92 7 (.slice ax s9.stk.length capx) s9.stk.length (stkCells s9.stk) := P9.out.stk
        have hk9l : s9.stk.length ≤ 1000 := by omega
        replace hk9 := Lib.hid hk9
        have hm1 : s9.stk.length + 1 ≤ maxLen := by unfold maxLen; omega
        have hm2 : (s9.stk.length + 1) * 80 ≤ 140737488355328 := by omega
        have hsz9 := P9.out.frame.size
        have hba : w1.heap.size ≤ (w9.alloc (.cells #[.int .i64 1, .int .i64 dp, .int .i64 nn, .bool ti, .string tx, .string inf, .string E] 92)).heap.size := by simp; omega
        have HO9 := Lib.hid hown9
        clear hown9
        go_wp2_with (at_builtin; refine wpList_append_any rfl (.tmp 81) (.tmp 85) 83 rfl w1.heap.size 92 i0 (.agg #[.int .i64 0, .int .i64 0, .int .i64 0, .bool false, .string ⟨#[]⟩, .string ⟨#[]⟩, .string ⟨#[]⟩]) 7 80 Tryz.underlying83 HI0.out.1 HI0.out.2.1 HI0.out.2.2.1 HI0.out.2.2.2 rfl (by decide) (.slice ax s9.stk.length capx) s9.stk.length (stkCells s9.stk) rfl (HO9.out.alloc _) (some ⟨w9.heap.size, 0, none⟩) 1 1 [.int .i64 1, .int .i64 dp, .int .i64 nn, .bool ti, .string tx, .string inf, .string E] rfl rfl (fun h => by cases h) (news_seven rfl _ _ _ _ _ _ _ _) (fun u hu => by simp at hu; rcases hu with rfl | rfl | rfl | rfl | rfl | rfl | rfl <;> rfl) hm1 hm2 hba ?_; intro v' w10 hown10 hgr10 hblk10; have P10 := Lib.hid (PSt.push (p := (⟨1, dp, nn, ti, tx, inf⟩, E)) P9.out hown10 hgr10); clear hown10 hgr10 hblk10)
        go_roundw
        case rel =>
          refine ⟨i + 1, heads, k + 1, { s9 with stk := (⟨1, dp, nn, ti, tx, inf⟩, E) :: s9.stk }, by omega, by go_num, by go_num, ?_⟩
          have hst : blockS c texts ⟨1, dp, nn, ti, tx, inf⟩ heads k s = { s9 with stk := (⟨1, dp, nn, ti, tx, inf⟩, E) :: s9.stk } := by
            unfold blockS pushS
            rw [HS6.out, HE.out, hbody.out]
          have hP := P10.out.lets hlet.out
          have e1 := HBF.out
          have e2 := HFF.out
          have e3 := HEQ.out
          rw [hst] at e1 e2 e3
          exact ⟨hP, e1, e2, by first | exact e3 | simpa [headsN, kN] using e3 | simpa [headsN, kN, k1, k2] using e3, by omega, by omega⟩
        case measure => simp only [RowKit.intOf]; omega
      by_cases k2 : kd = 2
      · skip
        subst k2
        have P6d := Lib.hid (P6.out.on (Below.drew (Below.refl _ w6)))
        have cX := text_any P6d.out hkq hkq1 htb1 hFw htc HT1.out (by omega)
        have cK := Lib.hid (fun (v9 : Held) (vl : Value) (w' : World) (h : PSt w0 w1 Fn v9 w1.heap.size (.pointer (some ⟨wb, 0, none⟩)) nb s6 w') hvl => HX2.out rfl w1 v9 w1.heap.size heads vl (textOf texts k) s6 w' HW1.out h hvl HTX.out (HF6.out.less (by omega)) (by omega) (by omega) (HPP.out heads k (by omega)))
        have hX9 : withB kq2 w2.heap.size (.cells #[.int .i64 ((k + 1 : Nat) : Int)] 3) xb = some (.cells #[.int .i64 2, .int .i64 dp, .int .i64 nn, .bool ti, .string tx, .string inf] 50) := by
          simp only [withB]; rw [if_neg (by omega), ← hKQ.out]; simp only [withB]; rw [if_pos hxb.symm]; rfl
        have HX9 := Lib.hid hX9
        obtain ⟨s0, s1, s2, s3, s4, s5⟩ := cells_blk (P6d.out.ctr xb _ (by rw [← hKQ.out]; simp only [withB]; rw [if_pos hxb.symm]; rfl)).1
        clear hX9
        go_wp2_with fail
        clear r0 r1 r2 r3 r4 r5
        go_region_with (first
          | (go_at_call 39; have cQ := cK.out _ vl w8 H8.out HVL.out; simp only [Blk.val] at cQ; refine cQ.mono ?_; rintro e w9 ⟨rfl, h9⟩; have P9 := Lib.hid h9; clear h9 cQ)
          | (refine cX.mono ?_; rintro e w8 ⟨vl, rfl, hvl, h8⟩; obtain ⟨z0, z1, z2, z3, z4, z5⟩ := cells_blk (h8.ctr xb _ HX9.out).1; have H8 := Lib.hid h8; have HVL := Lib.hid hvl; clear h8 hvl))
        all_goals
          clear s0 s1 s2 s3 s4 s5 z0 z1 z2 z3 z4 z5
          have hX9 := HX9.out
          obtain ⟨r0, r1, r2, r3, r4, r5⟩ := cells_blk (P9.out.ctr xb _ hX9).1
          have hbody : Hid (headS c nn heads (textOf texts k) s6 = bodyS c texts ⟨2, dp, nn, ti, tx, inf⟩ heads k s6) := by simp [Hid, bodyS]
          generalize headS c nn heads (textOf texts k) s6 = s9 at *
          have eh : IntKind.i64.wrap ((heads : Int) + 1) = (heads : Int) + 1 := IntWalk.i64_in _ (by omega)
          have hk9 : s9.stk.length = s6.stk.length := by rw [hbody.out]; exact bodyS_stk c texts _ heads k s6
          have hlet := Lib.hid (show ∀ q ob, kOf w2.heap.size (k + 1) q = some ob → withB kq2 w2.heap.size (.cells #[.int .i64 ((k + 1 : Nat) : Int)] 3) q = some ob from fun q ob hq => by
            simp only [kOf, withB] at hq ⊢
            by_cases e : q = w2.heap.size
            · rw [if_pos e] at hq ⊢; exact hq
            · rw [if_neg e] at hq; cases hq)

          obtain ⟨ax, capx, hvx⟩ := row_slice P9.out.stk
          dsimp only at hvx
          subst hvx
          have hown9 : w9.ownsRow w1.heap.size 92 7 (.slice ax s9.stk.length capx) s9.stk.length (stkCells s9.stk) := P9.out.stk
          have hk9l : s9.stk.length ≤ 1000 := by omega
          replace hk9 := Lib.hid hk9
          have hm1 : s9.stk.length + 1 ≤ maxLen := by unfold maxLen; omega
          have hm2 : (s9.stk.length + 1) * 80 ≤ 140737488355328 := by omega
          have hsz9 := P9.out.frame.size
          have hba : w1.heap.size ≤ (w9.alloc (.cells #[.int .i64 2, .int .i64 dp, .int .i64 nn, .bool ti, .string tx, .string inf, .string E] 92)).heap.size := by simp; omega
          have HO9 := Lib.hid hown9
          clear hown9
          go_wp2_with (at_builtin; refine wpList_append_any rfl (.tmp 81) (.tmp 85) 83 rfl w1.heap.size 92 i0 (.agg #[.int .i64 0, .int .i64 0, .int .i64 0, .bool false, .string ⟨#[]⟩, .string ⟨#[]⟩, .string ⟨#[]⟩]) 7 80 Tryz.underlying83 HI0.out.1 HI0.out.2.1 HI0.out.2.2.1 HI0.out.2.2.2 rfl (by decide) (.slice ax s9.stk.length capx) s9.stk.length (stkCells s9.stk) rfl (HO9.out.alloc _) (some ⟨w9.heap.size, 0, none⟩) 1 1 [.int .i64 2, .int .i64 dp, .int .i64 nn, .bool ti, .string tx, .string inf, .string E] rfl rfl (fun h => by cases h) (news_seven rfl _ _ _ _ _ _ _ _) (fun u hu => by simp at hu; rcases hu with rfl | rfl | rfl | rfl | rfl | rfl | rfl <;> rfl) hm1 hm2 hba ?_; intro v' w10 hown10 hgr10 hblk10; have P10 := Lib.hid (PSt.push (p := (⟨2, dp, nn, ti, tx, inf⟩, E)) P9.out hown10 hgr10); clear hown10 hgr10 hblk10)
          go_roundw
          case rel =>
            refine ⟨i + 1, heads + 1, k + 1, { s9 with stk := (⟨2, dp, nn, ti, tx, inf⟩, E) :: s9.stk }, by omega, by go_num, by go_num, ?_⟩
            have hst : blockS c texts ⟨2, dp, nn, ti, tx, inf⟩ heads k s = { s9 with stk := (⟨2, dp, nn, ti, tx, inf⟩, E) :: s9.stk } := by
              unfold blockS pushS
              rw [HS6.out, HE.out, hbody.out]
            have hP := P10.out.lets hlet.out
            have e1 := HBF.out
            have e2 := HFF.out
            have e3 := HEQ.out
            rw [hst] at e1 e2 e3
            exact ⟨hP, e1, e2, by first | exact e3 | simpa [headsN, kN] using e3 | simpa [headsN, kN, k1, k2] using e3, by omega, by omega⟩
          case measure => simp only [RowKit.intOf]; omega
      by_cases k6 : kd = 6
      · skip
        subst k6
        have hlen := codeL_length HXS.out
        have cQ := HX6.out rfl w1 _ w1.heap.size s6 w6 HW1.out P6.out (by omega)
        simp only [Blk.val] at cQ
        go_wp2_with fail
        refine cQ.mono ?_
        rintro e w9 ⟨rfl, h9⟩
        have P9 := Lib.hid h9
        clear r0 r1 r2 r3 r4 r5
        obtain ⟨r0, r1, r2, r3, r4, r5⟩ := CB.out _ _ _ h9
        clear h9 cQ
        have hbody : Hid (s6.put (codeL ⟨6, dp, nn, ti, tx, inf⟩) = bodyS c texts ⟨6, dp, nn, ti, tx, inf⟩ heads k s6) := by simp [Hid, bodyS]
        generalize s6.put (codeL ⟨6, dp, nn, ti, tx, inf⟩) = s9 at *
        have hk9 : s9.stk.length = s6.stk.length := by rw [hbody.out]; exact bodyS_stk c texts _ heads k s6
        have hlet := Lib.hid (show ∀ q ob, kOf w2.heap.size k q = some ob → kq2 q = some ob from fun q ob hq => by
          simp only [kOf, withB] at hq
          by_cases e : q = w2.heap.size
          · rw [if_pos e] at hq; cases hq; rw [e]; exact hkq
          · rw [if_neg e] at hq; cases hq)

        obtain ⟨ax, capx, hvx⟩ := row_slice P9.out.stk
        dsimp only at hvx
        subst hvx
        have hown9 : w9.ownsRow w1.heap.size 92 7 (.slice ax s9.stk.length capx) s9.stk.length (stkCells s9.stk) := P9.out.stk
        have hk9l : s9.stk.length ≤ 1000 := by omega
        replace hk9 := Lib.hid hk9
        have hm1 : s9.stk.length + 1 ≤ maxLen := by unfold maxLen; omega
        have hm2 : (s9.stk.length + 1) * 80 ≤ 140737488355328 := by omega
        have hsz9 := P9.out.frame.size
        have hba : w1.heap.size ≤ (w9.alloc (.cells #[.int .i64 6, .int .i64 dp, .int .i64 nn, .bool ti, .string tx, .string inf, .string E] 92)).heap.size := by simp; omega
        have HO9 := Lib.hid hown9
        clear hown9
        go_wp2_with (at_builtin; refine wpList_append_any rfl (.tmp 81) (.tmp 85) 83 rfl w1.heap.size 92 i0 (.agg #[.int .i64 0, .int .i64 0, .int .i64 0, .bool false, .string ⟨#[]⟩, .string ⟨#[]⟩, .string ⟨#[]⟩]) 7 80 Tryz.underlying83 HI0.out.1 HI0.out.2.1 HI0.out.2.2.1 HI0.out.2.2.2 rfl (by decide) (.slice ax s9.stk.length capx) s9.stk.length (stkCells s9.stk) rfl (HO9.out.alloc _) (some ⟨w9.heap.size, 0, none⟩) 1 1 [.int .i64 6, .int .i64 dp, .int .i64 nn, .bool ti, .string tx, .string inf, .string E] rfl rfl (fun h => by cases h) (news_seven rfl _ _ _ _ _ _ _ _) (fun u hu => by simp at hu; rcases hu with rfl | rfl | rfl | rfl | rfl | rfl | rfl <;> rfl) hm1 hm2 hba ?_; intro v' w10 hown10 hgr10 hblk10; have P10 := Lib.hid (PSt.push (p := (⟨6, dp, nn, ti, tx, inf⟩, E)) P9.out hown10 hgr10); clear hown10 hgr10 hblk10)
        go_roundw
        case rel =>
          refine ⟨i + 1, heads, k, { s9 with stk := (⟨6, dp, nn, ti, tx, inf⟩, E) :: s9.stk }, by omega, by go_num, by go_num, ?_⟩
          have hst : blockS c texts ⟨6, dp, nn, ti, tx, inf⟩ heads k s = { s9 with stk := (⟨6, dp, nn, ti, tx, inf⟩, E) :: s9.stk } := by
            unfold blockS pushS
            rw [HS6.out, HE.out, hbody.out]
          have hP := P10.out.lets hlet.out
          have e1 := HBF.out
          have e2 := HFF.out
          have e3 := HEQ.out
          rw [hst] at e1 e2 e3
          exact ⟨hP, e1, e2, by first | exact e3 | simpa [headsN, kN] using e3 | simpa [headsN, kN, k1, k2] using e3, by omega, by omega⟩
        case measure => simp only [RowKit.intOf]; omega
      by_cases k7 : kd = 7
      · skip
        subst k7
        have cQ := put_any (X := ⟨#[60, 104, 114, 32, 47, 62, 10]⟩) (t := [60, 104, 114, 32, 47, 62, 10]) P6.out rfl (by simp; omega)
        go_wp2_with fail
        refine cQ.mono ?_
        rintro e w9 ⟨rfl, h9⟩
        have P9 := Lib.hid h9
        clear r0 r1 r2 r3 r4 r5
        obtain ⟨r0, r1, r2, r3, r4, r5⟩ := CB.out _ _ _ h9
        clear h9 cQ
        have hbody : Hid (s6.put [60, 104, 114, 32, 47, 62, 10] = bodyS c texts ⟨7, dp, nn, ti, tx, inf⟩ heads k s6) := by simp [Hid, bodyS]
        generalize s6.put [60, 104, 114, 32, 47, 62, 10] = s9 at *
        have hk9 : s9.stk.length = s6.stk.length := by rw [hbody.out]; exact bodyS_stk c texts _ heads k s6
        have hlet := Lib.hid (show ∀ q ob, kOf w2.heap.size k q = some ob → kq2 q = some ob from fun q ob hq => by
          simp only [kOf, withB] at hq
          by_cases e : q = w2.heap.size
          · rw [if_pos e] at hq; cases hq; rw [e]; exact hkq
          · rw [if_neg e] at hq; cases hq)

        obtain ⟨ax, capx, hvx⟩ := row_slice P9.out.stk
        dsimp only at hvx
        subst hvx
        have hown9 : w9.ownsRow w1.heap.size 92 7 (.slice ax s9.stk.length capx) s9.stk.length (stkCells s9.stk) := P9.out.stk
        have hk9l : s9.stk.length ≤ 1000 := by omega
        replace hk9 := Lib.hid hk9
        have hm1 : s9.stk.length + 1 ≤ maxLen := by unfold maxLen; omega
        have hm2 : (s9.stk.length + 1) * 80 ≤ 140737488355328 := by omega
        have hsz9 := P9.out.frame.size
        have hba : w1.heap.size ≤ (w9.alloc (.cells #[.int .i64 7, .int .i64 dp, .int .i64 nn, .bool ti, .string tx, .string inf, .string E] 92)).heap.size := by simp; omega
        have HO9 := Lib.hid hown9
        clear hown9
        go_wp2_with (at_builtin; refine wpList_append_any rfl (.tmp 81) (.tmp 85) 83 rfl w1.heap.size 92 i0 (.agg #[.int .i64 0, .int .i64 0, .int .i64 0, .bool false, .string ⟨#[]⟩, .string ⟨#[]⟩, .string ⟨#[]⟩]) 7 80 Tryz.underlying83 HI0.out.1 HI0.out.2.1 HI0.out.2.2.1 HI0.out.2.2.2 rfl (by decide) (.slice ax s9.stk.length capx) s9.stk.length (stkCells s9.stk) rfl (HO9.out.alloc _) (some ⟨w9.heap.size, 0, none⟩) 1 1 [.int .i64 7, .int .i64 dp, .int .i64 nn, .bool ti, .string tx, .string inf, .string E] rfl rfl (fun h => by cases h) (news_seven rfl _ _ _ _ _ _ _ _) (fun u hu => by simp at hu; rcases hu with rfl | rfl | rfl | rfl | rfl | rfl | rfl <;> rfl) hm1 hm2 hba ?_; intro v' w10 hown10 hgr10 hblk10; have P10 := Lib.hid (PSt.push (p := (⟨7, dp, nn, ti, tx, inf⟩, E)) P9.out hown10 hgr10); clear hown10 hgr10 hblk10)
        go_roundw
        case rel =>
          refine ⟨i + 1, heads, k, { s9 with stk := (⟨7, dp, nn, ti, tx, inf⟩, E) :: s9.stk }, by omega, by go_num, by go_num, ?_⟩
          have hst : blockS c texts ⟨7, dp, nn, ti, tx, inf⟩ heads k s = { s9 with stk := (⟨7, dp, nn, ti, tx, inf⟩, E) :: s9.stk } := by
            unfold blockS pushS
            rw [HS6.out, HE.out, hbody.out]
          have hP := P10.out.lets hlet.out
          have e1 := HBF.out
          have e2 := HFF.out
          have e3 := HEQ.out
          rw [hst] at e1 e2 e3
          exact ⟨hP, e1, e2, by first | exact e3 | simpa [headsN, kN] using e3 | simpa [headsN, kN, k1, k2] using e3, by omega, by omega⟩
        case measure => simp only [RowKit.intOf]; omega
      by_cases k8 : kd = 8
      · skip
        subst k8
        have hlen := rawL_length (c := c) HXS.out
        have cQ := HX8.out rfl w1 _ w1.heap.size s6 w6 HW1.out P6.out (by omega)
        simp only [Blk.val] at cQ
        go_wp2_with fail
        refine cQ.mono ?_
        rintro e w9 ⟨rfl, h9⟩
        have P9 := Lib.hid h9
        clear r0 r1 r2 r3 r4 r5
        obtain ⟨r0, r1, r2, r3, r4, r5⟩ := CB.out _ _ _ h9
        clear h9 cQ
        have hbody : Hid (s6.put (rawL c ⟨8, dp, nn, ti, tx, inf⟩) = bodyS c texts ⟨8, dp, nn, ti, tx, inf⟩ heads k s6) := by simp [Hid, bodyS]
        generalize s6.put (rawL c ⟨8, dp, nn, ti, tx, inf⟩) = s9 at *
        have hk9 : s9.stk.length = s6.stk.length := by rw [hbody.out]; exact bodyS_stk c texts _ heads k s6
        have hlet := Lib.hid (show ∀ q ob, kOf w2.heap.size k q = some ob → kq2 q = some ob from fun q ob hq => by
          simp only [kOf, withB] at hq
          by_cases e : q = w2.heap.size
          · rw [if_pos e] at hq; cases hq; rw [e]; exact hkq
          · rw [if_neg e] at hq; cases hq)

        obtain ⟨ax, capx, hvx⟩ := row_slice P9.out.stk
        dsimp only at hvx
        subst hvx
        have hown9 : w9.ownsRow w1.heap.size 92 7 (.slice ax s9.stk.length capx) s9.stk.length (stkCells s9.stk) := P9.out.stk
        have hk9l : s9.stk.length ≤ 1000 := by omega
        replace hk9 := Lib.hid hk9
        have hm1 : s9.stk.length + 1 ≤ maxLen := by unfold maxLen; omega
        have hm2 : (s9.stk.length + 1) * 80 ≤ 140737488355328 := by omega
        have hsz9 := P9.out.frame.size
        have hba : w1.heap.size ≤ (w9.alloc (.cells #[.int .i64 8, .int .i64 dp, .int .i64 nn, .bool ti, .string tx, .string inf, .string E] 92)).heap.size := by simp; omega
        have HO9 := Lib.hid hown9
        clear hown9
        go_wp2_with (at_builtin; refine wpList_append_any rfl (.tmp 81) (.tmp 85) 83 rfl w1.heap.size 92 i0 (.agg #[.int .i64 0, .int .i64 0, .int .i64 0, .bool false, .string ⟨#[]⟩, .string ⟨#[]⟩, .string ⟨#[]⟩]) 7 80 Tryz.underlying83 HI0.out.1 HI0.out.2.1 HI0.out.2.2.1 HI0.out.2.2.2 rfl (by decide) (.slice ax s9.stk.length capx) s9.stk.length (stkCells s9.stk) rfl (HO9.out.alloc _) (some ⟨w9.heap.size, 0, none⟩) 1 1 [.int .i64 8, .int .i64 dp, .int .i64 nn, .bool ti, .string tx, .string inf, .string E] rfl rfl (fun h => by cases h) (news_seven rfl _ _ _ _ _ _ _ _) (fun u hu => by simp at hu; rcases hu with rfl | rfl | rfl | rfl | rfl | rfl | rfl <;> rfl) hm1 hm2 hba ?_; intro v' w10 hown10 hgr10 hblk10; have P10 := Lib.hid (PSt.push (p := (⟨8, dp, nn, ti, tx, inf⟩, E)) P9.out hown10 hgr10); clear hown10 hgr10 hblk10)
        go_roundw
        case rel =>
          refine ⟨i + 1, heads, k, { s9 with stk := (⟨8, dp, nn, ti, tx, inf⟩, E) :: s9.stk }, by omega, by go_num, by go_num, ?_⟩
          have hst : blockS c texts ⟨8, dp, nn, ti, tx, inf⟩ heads k s = { s9 with stk := (⟨8, dp, nn, ti, tx, inf⟩, E) :: s9.stk } := by
            unfold blockS pushS
            rw [HS6.out, HE.out, hbody.out]
          have hP := P10.out.lets hlet.out
          have e1 := HBF.out
          have e2 := HFF.out
          have e3 := HEQ.out
          rw [hst] at e1 e2 e3
          exact ⟨hP, e1, e2, by first | exact e3 | simpa [headsN, kN] using e3 | simpa [headsN, kN, k1, k2] using e3, by omega, by omega⟩
        case measure => simp only [RowKit.intOf]; omega
      · skip
        have P9 := P6
        have hbody : Hid (s6 = bodyS c texts ⟨kd, dp, nn, ti, tx, inf⟩ heads k s6) := by simp [Hid, bodyS, k1, k2, k6, k7, k8]
        obtain ⟨s9, hs9⟩ : ∃ s9, s9 = s6 := ⟨_, rfl⟩
        obtain ⟨w9, hw9⟩ : ∃ w9, w9 = w6 := ⟨_, rfl⟩
        have hk9 : s9.stk.length = s6.stk.length := by rw [hs9]
        rw [← hs9, ← hw9] at P9
        rw [← hw9] at r0 r1 r2 r3 r4 r5 ⊢
        have hbody : Hid (s9 = bodyS c texts ⟨kd, dp, nn, ti, tx, inf⟩ heads k s6) := hs9.trans hbody
        replace hs9 := Lib.hid hs9
        replace hw9 := Lib.hid hw9
        have hlet := Lib.hid (show ∀ q ob, kOf w2.heap.size k q = some ob → kq2 q = some ob from fun q ob hq => by
          simp only [kOf, withB] at hq
          by_cases e : q = w2.heap.size
          · rw [if_pos e] at hq; cases hq; rw [e]; exact hkq
          · rw [if_neg e] at hq; cases hq)

        obtain ⟨ax, capx, hvx⟩ := row_slice P9.out.stk
        dsimp only at hvx
        subst hvx
        have hown9 : w9.ownsRow w1.heap.size 92 7 (.slice ax s9.stk.length capx) s9.stk.length (stkCells s9.stk) := P9.out.stk
        have hk9l : s9.stk.length ≤ 1000 := by omega
        replace hk9 := Lib.hid hk9
        have hm1 : s9.stk.length + 1 ≤ maxLen := by unfold maxLen; omega
        have hm2 : (s9.stk.length + 1) * 80 ≤ 140737488355328 := by omega
        have hsz9 := P9.out.frame.size
        have hba : w1.heap.size ≤ (w9.alloc (.cells #[.int .i64 kd, .int .i64 dp, .int .i64 nn, .bool ti, .string tx, .string inf, .string E] 92)).heap.size := by simp; omega
        have HO9 := Lib.hid hown9
        clear hown9
        go_wp2_with (at_builtin; refine wpList_append_any rfl (.tmp 81) (.tmp 85) 83 rfl w1.heap.size 92 i0 (.agg #[.int .i64 0, .int .i64 0, .int .i64 0, .bool false, .string ⟨#[]⟩, .string ⟨#[]⟩, .string ⟨#[]⟩]) 7 80 Tryz.underlying83 HI0.out.1 HI0.out.2.1 HI0.out.2.2.1 HI0.out.2.2.2 rfl (by decide) (.slice ax s9.stk.length capx) s9.stk.length (stkCells s9.stk) rfl (HO9.out.alloc _) (some ⟨w9.heap.size, 0, none⟩) 1 1 [.int .i64 kd, .int .i64 dp, .int .i64 nn, .bool ti, .string tx, .string inf, .string E] rfl rfl (fun h => by cases h) (news_seven rfl _ _ _ _ _ _ _ _) (fun u hu => by simp at hu; rcases hu with rfl | rfl | rfl | rfl | rfl | rfl | rfl <;> rfl) hm1 hm2 hba ?_; intro v' w10 hown10 hgr10 hblk10; have P10 := Lib.hid (PSt.push (p := (⟨kd, dp, nn, ti, tx, inf⟩, E)) P9.out hown10 hgr10); clear hown10 hgr10 hblk10)
        go_roundw
        case rel =>
          refine ⟨i + 1, heads, k, { s9 with stk := (⟨kd, dp, nn, ti, tx, inf⟩, E) :: s9.stk }, by omega, by go_num, by go_num, ?_⟩
          have hst : blockS c texts ⟨kd, dp, nn, ti, tx, inf⟩ heads k s = { s9 with stk := (⟨kd, dp, nn, ti, tx, inf⟩, E) :: s9.stk } := by
            unfold blockS pushS
            rw [HS6.out, HE.out, hbody.out]
          have hP := P10.out.lets hlet.out
          have e1 := HBF.out
          have e2 := HFF.out
          have e3 := HEQ.out
          rw [hst] at e1 e2 e3
          exact ⟨hP, e1, e2, by first | exact e3 | simpa [headsN, kN] using e3 | simpa [headsN, kN, k1, k2] using e3, by omega, by omega⟩
        case measure => simp only [RowKit.intOf]; omega
    · obtain rfl : i = bs.length := by omega
      have hnn : ¬ ((bs.length : Int) < bs.length) := by omega
      have cL := leave_any (d := -9223372036854775808) HR.out.st HR.out.fits (by omega)
      have HEQ := Lib.hid (show leaveS (-9223372036854775808) s = blocksF c texts bs 0 0 ⟨[], L, C, [], []⟩ by rw [← HR.out.eq, List.drop_length]; rfl)
      go_wp2_with fail
      refine cL.mono ?_
      rintro e w4 ⟨v4, rfl, h4⟩
      have P4 := Lib.hid h4
      rw [HEQ.out] at P4
      clear h4 cL
      generalize blocksF c texts bs 0 0 ⟨[], L, C, [], []⟩ = sE at *
      obtain ⟨dg2, hp2, hd2⟩ := P4.out.paper
      have P4d := Lib.hid (P4.out.on (Below.drew (Below.refl _ w4)))
      have hd2d : w4.drew.ownsRow w1.heap.size 123 2 dg2 sE.dg.length (dgCells sE.dg) := hd2
      have hpd : IsPaper w1.heap.size w1.heap.size (.pointer (some ⟨wb, 0, none⟩)) dg2 sE.out w4.drew := hp2
      have cR := pen_read hpd P4d.out.frame.size
      have c3 : w4.drew.cell? ⟨w1.heap.size, 3, none⟩ = some dg2 := hpd.cell3
      have RD := Lib.hid (fun w' => P4d.out.read (w' := w') hpd hd2d)
      clear hp2 hpd hd2 hd2d
      go_wp2_with fail
      go_region_with (go_at_call 27; refine cR.mono ?_; rintro e w5 ⟨rfl, hb5, hk5⟩; have c33 := (RD.out w5 hb5 hk5).1; have H5 := Lib.hid (RD.out w5 hb5 hk5).2; clear hb5 hk5)
      all_goals
        go_wp2_with fail
        go_ret2
        exact ⟨dg2, rfl, HBK.out _ _ _ H5.out⟩
end Go.Proofs.YtpabackkapgkpaaGreatDoor
