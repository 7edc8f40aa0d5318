/- (*html.paper).head over no nodes: the walk. -/
import Derived.Test.YtpabackkapgkpaaGreatDoorHPen
import Derived.Deep.RegionWith
import Derived.StillTailTactics
namespace Go.Proofs.YtpabackkapgkpaaGreatDoor
open Go.RowKit Go.Lib

set_option maxHeartbeats 1000000 in
theorem nodes_none (b : Nat) (a : Option Addr) (cap : Nat) (w : World) : Calls Tryz.prog 26 #[.pointer (some ⟨b, 0, none⟩), .slice a 0 cap] w fun e w' => e = .returned (.tuple #[]) ∧ w' = w := by
  go_enter Tryz.func26, Tryz.ntmps26
  go_wp2_with fail
  go_loopw [1] (fun vl wr => vl = .slice a 0 cap ∧ wr = w) (fun _ _ => 0)
  case atStart => exact ⟨rfl, rfl⟩
  case round =>
    obtain ⟨rfl, rfl⟩ := hrel
    go_wp2_with fail
    go_end0
    exact ⟨rfl, rfl⟩

/-- the section of a heading, or the zero one -/
def headSec (c : Cfg) (k : Nat) : Sec := if h : k < c.secs.length then c.secs[k] else Sec.zero
theorem Counts.sec (s : Sec) : Counts (.cells s.cells.toArray 29) := ⟨_, _, rfl, by decide, by decide, by decide, by decide⟩
theorem headNo_eq (c : Cfg) (k : Nat) : headNo c k = if c.number = true ∧ (headSec c k).number.data.toList ≠ [] then [60, 115, 112, 97, 110, 32, 99, 108, 97, 115, 115, 61, 34, 110, 34, 62] ++ (headSec c k).number.data.toList ++ [60, 47, 115, 112, 97, 110, 62, 32] else [] := by
  unfold headNo headSec
  split
  · rfl
  · rw [if_neg]; rintro ⟨-, h⟩; exact h rfl
def OkHead (c : Cfg) (k : Nat) (l : List Inl) : Prop := l = [] ∧ ∀ h : k < c.secs.length, (c.secs[k]).anchor.size + (c.secs[k]).number.size ≤ 60
theorem headId_eq (c : Cfg) (k : Nat) : headId c k = if k < c.secs.length then [115, 45] ++ (headSec c k).anchor.data.toList else [] := by
  unfold headId headSec
  split
  · rfl
  · rfl

set_option maxHeartbeats 4000000 in
set_option maxRecDepth 100000 in
theorem head_ok {w0 : World} {Fn : Nat → Prop} {c : Cfg} {wb nb : Nat} {x : Blk} (hT : Tabs w0) (hx : x.Small) : HeadOk (OkHead c) w0 Fn c wb nb x := by
  intro w1 v9 b k v l s w hw h hv _ _ hr hk hP
  obtain ⟨rfl, hA⟩ := hP
  obtain ⟨va, vc, rfl, -⟩ := hv
  have hxn := hx.n
  obtain ⟨kd, dp, nn, ti, tx, inf⟩ := x
  simp only at hxn
  unfold Blk.val
  simp only
  simp only [List.length_nil, Nat.mul_zero, Nat.add_zero] at hr ⊢
  have hlets : Hid (∀ s' w', PSt w0 w1 Fn ⟨v9.v, withB (withB v9.kb w.heap.size (.cells (Blk.cells ⟨kd, dp, nn, ti, tx, inf⟩).toArray 50)) (w.heap.size + 1) (.cells (headSec c k).cells.toArray 29)⟩ b (.pointer (some ⟨wb, 0, none⟩)) nb s' w' → PSt w0 w1 Fn v9 b (.pointer (some ⟨wb, 0, none⟩)) nb s' w') := fun s' w' h' => h'.lets (fun g o hg => by
    have := (Array.getElem?_eq_some_iff.1 (h.ctr g o hg).1).1
    simp only [withB]
    rw [if_neg (by omega), if_neg (by omega)]
    exact hg)
  have H0 := PSt.hold h (Counts.blk ⟨kd, dp, nn, ti, tx, inf⟩)
  have H1 := PSt.hold H0 (Counts.sec (headSec c k))
  have hz0 : (w.alloc (.cells (Blk.cells ⟨kd, dp, nn, ti, tx, inf⟩).toArray 50)).heap.size = w.heap.size + 1 := by simp
  rw [hz0] at H1
  obtain ⟨kq, hkq⟩ : ∃ kq, withB (withB v9.kb w.heap.size (.cells (Blk.cells ⟨kd, dp, nn, ti, tx, inf⟩).toArray 50)) (w.heap.size + 1) (.cells (headSec c k).cells.toArray 29) = kq := ⟨_, rfl⟩
  have hq1 : kq w.heap.size = some (.cells (Blk.cells ⟨kd, dp, nn, ti, tx, inf⟩).toArray 50) := by rw [← hkq]; simp only [withB]; rw [if_neg (by omega), if_pos trivial]
  have hq2 : kq (w.heap.size + 1) = some (.cells (headSec c k).cells.toArray 29) := by rw [← hkq]; simp only [withB]; rw [if_pos trivial]
  rw [hkq] at H1 hlets
  have HA1 := Lib.hid H1
  have CB := Lib.hid (fun (s' : HSt) (w' : World) (h' : PSt w0 w1 Fn ⟨v9.v, kq⟩ b (.pointer (some ⟨wb, 0, none⟩)) nb s' w') => (show w'.cell? ⟨w.heap.size, 2, none⟩ = some (.int .i64 nn) ∧ w'.cell? ⟨w.heap.size + 1, 1, none⟩ = some (.string (headSec c k).number) ∧ w'.cell? ⟨w.heap.size + 1, 2, none⟩ = some (.string (headSec c k).anchor) from by
    refine ⟨?_, ?_, ?_⟩
    · rw [Lib.cell_of_heap (h'.ctr _ _ hq1).1]; rfl
    · rw [Lib.cell_of_heap (h'.ctr _ _ hq2).1]; rfl
    · rw [Lib.cell_of_heap (h'.ctr _ _ hq2).1]; rfl))
  have WC := Lib.hid (fun (s' : HSt) (w' : World) (h' : PSt w0 w1 Fn ⟨v9.v, kq⟩ b (.pointer (some ⟨wb, 0, none⟩)) nb s' w') => (show w'.cell? ⟨b, 0, none⟩ = some (.pointer (some ⟨wb, 0, none⟩)) ∧ w'.cell? ⟨wb, 0, none⟩ = some (.bool c.number) from by
    obtain ⟨dg, hp, -⟩ := h'.paper
    obtain ⟨vS, hcw, -⟩ := h'.writer hw
    exact ⟨hp.cell0, (writer_cells hcw).1⟩))
  -- what is read ahead of the store
  have hA2 := h.on (((Below.refl w.heap.size w).alloc (Nat.le_refl _) (.cells #[.int .i64 kd, .int .i64 dp, .int .i64 nn, .bool ti, .string tx, .string inf] 50)).alloc (by simp) (.cells #[.int .i64 0, .string ⟨#[]⟩, .string ⟨#[]⟩, .string ⟨#[]⟩] 29))
  obtain ⟨vS, hcw, hS⟩ := hA2.writer hw
  obtain ⟨dg, hp, -⟩ := hA2.paper
  have c0 := hp.cell0
  obtain ⟨k0, -, -, k5, -⟩ := writer_cells hcw
  obtain ⟨sa, scap, rfl, hc1, hc2, hc3, hsec⟩ := hS
  have HSEC := Lib.hid hsec
  have HT := Lib.hid hT
  clear h H0 H1 hz0 hkq hq1 hq2 hA2 hcw hp hsec hw hT
  obtain ⟨D, hD⟩ : ∃ Y : ByteArray, Y.data.toList = Lib.itoa nn := ⟨_, ba_mk _⟩
  have hDs : D.size ≤ 21 := by rw [ba_size, hD]; exact itoa_len nn hxn.1 hxn.2
  have HD := Lib.hid hD
  clear hD
  by_cases hlt : k < c.secs.length
  · have hs : headSec c k = c.secs[k] := by unfold headSec; rw [dif_pos hlt]
    have hI60 : (headSec c k).anchor.size + (headSec c k).number.size ≤ 60 := by rw [hs]; exact hA hlt
    rcases HSEC.out with h9 | ⟨g, o, rfl, hg, hat⟩
    · rw [h9] at hlt; simp at hlt
    have a0 := (hat k hlt).c0
    have a1 := (hat k hlt).c1
    have a2 := (hat k hlt).c2
    have a3 := (hat k hlt).c3
    rw [← hs] at a0 a1 a2 a3
    have hid := headId_eq c k
    rw [if_pos hlt] at hid
    have hno := headNo_eq c k
    clear hs hat hA
    unfold Sec.cells at HA1
    generalize headSec c k = sec at *
    obtain ⟨lv, no, an, tx2⟩ := sec
    simp only at a0 a1 a2 a3 hid hno hI60 HA1
    obtain ⟨A, hAt⟩ : ∃ Y : ByteArray, Y.data.toList = attrL [105, 100] (headId c k) := ⟨_, ba_mk _⟩
    have hAs : A.size ≤ 1000 := by
      have a := attrL_length [105, 100] (headId c k)
      rw [ba_size, hAt]
      rw [hid] at a ⊢
      simp only [List.length_append, List.length_cons, List.length_nil] at a
      rw [← ba_size] at a
      omega
    have hIs : (⟨#[115, 45]⟩ ++ an : ByteArray).size ≤ 70 := by rw [ba_size, ba_append, List.length_append, ← ba_size an]; show 2 + an.size ≤ 70; omega
    have HAt := Lib.hid (show attrL [105, 100] (⟨#[115, 45]⟩ ++ an : ByteArray).data.toList = A.data.toList by rw [hAt, hid, ba_append])
    have hx1 : (⟨#[60]⟩ ++ (⟨#[104]⟩ ++ D) ++ A ++ ⟨#[62]⟩ : ByteArray).data.toList = [60] ++ signL nn ++ attrL [105, 100] (headId c k) ++ [62] := by
      simp only [ba_append, HD.out, hAt]; first | done | rfl
    have hr1 : s.out.length + ([60] ++ signL nn ++ attrL [105, 100] (headId c k) ++ [62]).length ≤ 140737488355328 := by
      rw [← hx1, ← ba_size]
      have : (⟨#[60]⟩ ++ (⟨#[104]⟩ ++ D) ++ A ++ ⟨#[62]⟩ : ByteArray).size ≤ 2000 := by simp only [ba_size, ba_append, List.length_append]; rw [← ba_size, ← ba_size]; simp only [List.length_cons, List.length_nil]; omega
      omega
    have HX1 := Lib.hid hx1
    have HR1 := Lib.hid hr1
    have HX3 := Lib.hid (show (⟨#[60, 47]⟩ ++ (⟨#[104]⟩ ++ D) ++ ⟨#[62, 10]⟩ : ByteArray).data.toList = [60, 47] ++ signL nn ++ [62, 10] by simp only [ba_append, HD.out]; first | done | rfl)
    have HR0 := Lib.hid (show s.out.length + ([60] ++ signL nn ++ attrL [105, 100] (headId c k) ++ [62]).length ≤ 100000000000000 + 2000 by
      rw [← hx1, ← ba_size]
      have : (⟨#[60]⟩ ++ (⟨#[104]⟩ ++ D) ++ A ++ ⟨#[62]⟩ : ByteArray).size ≤ 2000 := by simp only [ba_size, ba_append, List.length_append]; rw [← ba_size, ← ba_size]; simp only [List.length_cons, List.length_nil]; omega
      omega)
    have HR3 := Lib.hid (show (s.put ([60] ++ signL nn ++ attrL [105, 100] (headId c k) ++ [62])).out.length + ([60, 47] ++ signL nn ++ [62, 10]).length ≤ 140737488355328 by
      have h9 := HR0.out
      have h8 := signL_length hxn.1 hxn.2
      simp only [HSt.put, List.length_append, List.length_cons, List.length_nil] at h9 ⊢
      omega)
    have hki : (k : Int) < c.secs.length := by omega
    have hk0 : (0 : Int) ≤ (k : Int) := by omega
    clear hAt hx1 hr1
    go_enter Tryz.func39, Tryz.ntmps39
    go_wp2_with fail
    refine (itoa_any nn hxn.1 hxn.2 _ (HT.out.on HA1.out.below) HD.out).mono ?_
    rintro e w3 ⟨rfl, hb3⟩
    have H3 := Lib.hid ((HA1.out.on hb3).on (Below.drew (Below.refl _ w3)))
    have cA : Calls Tryz.prog 22 #[.string ⟨#[105, 100]⟩, .string (⟨#[115, 45]⟩ ++ an)] w3.drew fun e w' => e = .returned (.string A) ∧ Below w3.drew.heap.size w3.drew w' := Attr_lit HAt.out (by decide) (by omega) (Below.refl _ _)
    clear hb3 c0 k5 a0 a1 a2 a3
    go_wp2_with fail
    go_region_with (first
      | (go_at_call 22; refine cA.mono ?_; rintro e w4 ⟨rfl, hb4⟩; have H4 := Lib.hid (H3.out.on hb4); clear hb4)
      | (go_at_call 33; refine (put_any H4.out HX1.out HR1.out).mono ?_; rintro e w5 ⟨rfl, h5⟩; have H5 := Lib.hid h5; clear h5))
    all_goals
      obtain ⟨p0, p1⟩ := WC.out _ _ H5.out
      obtain ⟨-, p2, -⟩ := CB.out _ _ H5.out
      have P5 := Lib.hid (H5.out.on (Below.drew (Below.refl _ w5)))
      obtain ⟨r0, r1⟩ := WC.out _ _ P5.out
      obtain ⟨-, r2, -⟩ := CB.out _ _ P5.out
      cases hcn : c.number with
      | false =>
        rw [hcn] at p1
        have HNO := Lib.hid (show headNo c k = [] by rw [hno, hcn, if_neg (by simp)])
        clear hno r0 r1 r2
        go_wp2_with fail
        refine (nodes_none b va vc _).mono ?_
        rintro e w7 ⟨rfl, rfl⟩
        go_wp2_with fail
        refine (put_any H5.out HX3.out HR3.out).mono ?_
        rintro e w8 ⟨rfl, h8⟩
        go_wp2_with fail
        go_end0
        refine ⟨rfl, ?_⟩
        have h9 := hlets.out _ _ h8
        unfold headS
        rw [nodesS_nil, if_pos HNO.out]
        exact h9
      | true =>
        rw [hcn] at p1 r1
        cases hem : no.toList.isEmpty with
        | true =>
          have HNO := Lib.hid (show headNo c k = [] by
            rw [hno, if_neg]
            rintro ⟨-, h⟩
            rw [Lib.toList_data, List.isEmpty_iff] at hem
            exact h hem)
          clear hno r0 r1 r2
          go_wp2_with fail
          refine (nodes_none b va vc _).mono ?_
          rintro e w7 ⟨rfl, rfl⟩
          go_wp2_with fail
          refine (put_any H5.out HX3.out HR3.out).mono ?_
          rintro e w8 ⟨rfl, h8⟩
          go_wp2_with fail
          go_end0
          refine ⟨rfl, ?_⟩
          have h9 := hlets.out _ _ h8
          unfold headS
          rw [nodesS_nil, if_pos HNO.out]
          exact h9
        | false =>
          have hne : no.data.toList ≠ [] := fun h => by rw [Lib.toList_data, h] at hem; cases hem
          have hno2 : headNo c k = (⟨#[60, 115, 112, 97, 110, 32, 99, 108, 97, 115, 115, 61, 34, 110, 34, 62]⟩ ++ no ++ ⟨#[60, 47, 115, 112, 97, 110, 62, 32]⟩ : ByteArray).data.toList := by
            rw [hno, if_pos ⟨hcn, hne⟩, ba_append, ba_append]
          have hnn0 : headNo c k ≠ [] := by rw [hno2, ba_append, ba_append]; simp
          have HNO := Lib.hid hnn0
          have HX2 := Lib.hid hno2.symm
          have HR2 := Lib.hid (show (s.put ([60] ++ signL nn ++ attrL [105, 100] (headId c k) ++ [62])).out.length + (headNo c k).length ≤ 140737488355328 by
            rw [hno2]
            have h9 := HR0.out
            simp only [HSt.put, List.length_append, ba_append] at h9 ⊢
            rw [← ba_size no]
            simp only [List.length_cons, List.length_nil]
            omega)
          have HR4 := Lib.hid (show ((s.put ([60] ++ signL nn ++ attrL [105, 100] (headId c k) ++ [62])).put (headNo c k)).out.length + ([60, 47] ++ signL nn ++ [62, 10]).length ≤ 140737488355328 by
            rw [hno2]
            have h9 := HR0.out
            have h8 := signL_length hxn.1 hxn.2
            simp only [HSt.put, List.length_append, ba_append] at h9 ⊢
            rw [← ba_size no]
            simp only [List.length_cons, List.length_nil]
            omega)
          clear hno hno2 hnn0 hne
          go_wp2_with fail
          clear p0 p1 p2
          go_region_with (go_at_call 33; refine (put_any P5.out HX2.out HR2.out).mono ?_; rintro e w6 ⟨rfl, h6⟩; have H6 := Lib.hid h6; clear h6)
          all_goals
            go_wp2_with fail
            refine (nodes_none b va vc _).mono ?_
            rintro e w7 ⟨rfl, rfl⟩
            go_wp2_with fail
            refine (put_any H6.out HX3.out HR4.out).mono ?_
            rintro e w8 ⟨rfl, h8⟩
            go_wp2_with fail
            go_end0
            refine ⟨rfl, ?_⟩
            have h9 := hlets.out _ _ h8
            unfold headS
            rw [nodesS_nil, if_neg HNO.out]
            exact h9
  · have hs : headSec c k = Sec.zero := by unfold headSec; rw [dif_neg hlt]
    have hid := headId_eq c k
    rw [if_neg hlt] at hid
    have hno : headNo c k = [] := by
      rw [headNo_eq, hs, if_neg]
      rintro ⟨-, h⟩
      exact h rfl
    rw [hs] at CB HA1
    unfold Sec.cells at HA1
    unfold Sec.zero at CB HA1
    simp only at CB HA1
    clear hs hA
    obtain ⟨A, hAt⟩ : ∃ Y : ByteArray, Y.data.toList = attrL [105, 100] (headId c k) := ⟨_, ba_mk _⟩
    have hAs : A.size ≤ 1000 := by
      have a := attrL_length [105, 100] (headId c k)
      rw [ba_size, hAt]
      rw [hid] at a ⊢
      simp only [List.length_cons, List.length_nil] at a
      omega
    have HAt := Lib.hid (show attrL [105, 100] (⟨#[]⟩ : ByteArray).data.toList = A.data.toList by rw [hAt, hid])
    have hx1 : (⟨#[60]⟩ ++ (⟨#[104]⟩ ++ D) ++ A ++ ⟨#[62]⟩ : ByteArray).data.toList = [60] ++ signL nn ++ attrL [105, 100] (headId c k) ++ [62] := by
      simp only [ba_append, HD.out, hAt]; first | done | rfl
    have hr1 : s.out.length + ([60] ++ signL nn ++ attrL [105, 100] (headId c k) ++ [62]).length ≤ 140737488355328 := by
      rw [← hx1, ← ba_size]
      have : (⟨#[60]⟩ ++ (⟨#[104]⟩ ++ D) ++ A ++ ⟨#[62]⟩ : ByteArray).size ≤ 2000 := by simp only [ba_size, ba_append, List.length_append]; rw [← ba_size, ← ba_size]; simp only [List.length_cons, List.length_nil]; omega
      omega
    have HX1 := Lib.hid hx1
    have HR1 := Lib.hid hr1
    have HX3 := Lib.hid (show (⟨#[60, 47]⟩ ++ (⟨#[104]⟩ ++ D) ++ ⟨#[62, 10]⟩ : ByteArray).data.toList = [60, 47] ++ signL nn ++ [62, 10] by simp only [ba_append, HD.out]; first | done | rfl)
    have HR0 := Lib.hid (show s.out.length + ([60] ++ signL nn ++ attrL [105, 100] (headId c k) ++ [62]).length ≤ 100000000000000 + 2000 by
      rw [← hx1, ← ba_size]
      have : (⟨#[60]⟩ ++ (⟨#[104]⟩ ++ D) ++ A ++ ⟨#[62]⟩ : ByteArray).size ≤ 2000 := by simp only [ba_size, ba_append, List.length_append]; rw [← ba_size, ← ba_size]; simp only [List.length_cons, List.length_nil]; omega
      omega)
    have HR3 := Lib.hid (show (s.put ([60] ++ signL nn ++ attrL [105, 100] (headId c k) ++ [62])).out.length + ([60, 47] ++ signL nn ++ [62, 10]).length ≤ 140737488355328 by
      have h9 := HR0.out
      have h8 := signL_length hxn.1 hxn.2
      simp only [HSt.put, List.length_append, List.length_cons, List.length_nil] at h9 ⊢
      omega)
    have hki : ¬ (k : Int) < c.secs.length := by omega
    have hk0 : (0 : Int) ≤ (k : Int) := by omega
    clear hAt hx1 hr1
    go_enter Tryz.func39, Tryz.ntmps39
    go_wp2_with fail
    refine (itoa_any nn hxn.1 hxn.2 _ (HT.out.on HA1.out.below) HD.out).mono ?_
    rintro e w3 ⟨rfl, hb3⟩
    have H3 := Lib.hid ((HA1.out.on hb3).on (Below.drew (Below.refl _ w3)))
    have cA : Calls Tryz.prog 22 #[.string ⟨#[105, 100]⟩, .string ⟨#[]⟩] w3.drew fun e w' => e = .returned (.string A) ∧ Below w3.drew.heap.size w3.drew w' := Attr_lit HAt.out (by decide) (by decide) (Below.refl _ _)
    clear hb3 c0 k5
    go_wp2_with fail
    go_region_with (first
      | (go_at_call 22; refine cA.mono ?_; rintro e w4 ⟨rfl, hb4⟩; have H4 := Lib.hid (H3.out.on hb4); clear hb4)
      | (go_at_call 33; refine (put_any H4.out HX1.out HR1.out).mono ?_; rintro e w5 ⟨rfl, h5⟩; have H5 := Lib.hid h5; clear h5))
    all_goals
      obtain ⟨p0, p1⟩ := WC.out _ _ H5.out
      obtain ⟨-, p2, -⟩ := CB.out _ _ H5.out
      have P5 := Lib.hid (H5.out.on (Below.drew (Below.refl _ w5)))
      obtain ⟨r0, r1⟩ := WC.out _ _ P5.out
      obtain ⟨-, r2, -⟩ := CB.out _ _ P5.out
      cases hcn : c.number with
      | false =>
        rw [hcn] at p1
        have HNO := Lib.hid hno
        clear hno r0 r1 r2
        go_wp2_with fail
        refine (nodes_none b va vc _).mono ?_
        rintro e w7 ⟨rfl, rfl⟩
        go_wp2_with fail
        refine (put_any H5.out HX3.out HR3.out).mono ?_
        rintro e w8 ⟨rfl, h8⟩
        go_wp2_with fail
        go_end0
        refine ⟨rfl, ?_⟩
        have h9 := hlets.out _ _ h8
        unfold headS
        rw [nodesS_nil, if_pos HNO.out]
        exact h9
      | true =>
        rw [hcn] at p1
        have HNO := Lib.hid hno
        clear hno r0 r1 r2
        go_wp2_with fail
        refine (nodes_none b va vc _).mono ?_
        rintro e w7 ⟨rfl, rfl⟩
        go_wp2_with fail
        refine (put_any H5.out HX3.out HR3.out).mono ?_
        rintro e w8 ⟨rfl, h8⟩
        go_wp2_with fail
        go_end0
        refine ⟨rfl, ?_⟩
        have h9 := hlets.out _ _ h8
        unfold headS
        rw [nodesS_nil, if_pos HNO.out]
        exact h9
end Go.Proofs.YtpabackkapgkpaaGreatDoor
