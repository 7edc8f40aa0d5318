/- (*slug.Anchors).Next: the walk. -/
import Derived.Test.YtbblgnbafecdmaaGreatDoorAnchors
import Derived.Deep.DeepCutAuto
import Derived.Deep.CutBlock
import Derived.WalkSmall
namespace Go.Proofs.YtbblgnbafecdmaaGreatDoor
open Go.RowKit Go.Lib Go.Maps

/-- the tables lie below a place -/
structure Low (base : Nat) : Prop where
  a : 1 < base
  b : 2 < base
  c : 0 < base
theorem Tabs.low {w : World} (h : Tabs w) : Low w.heap.size := by
  refine ⟨h.lt3, h.lt4, ?_⟩
  have hp := h.pow
  unfold Lib.TabIs World.var? at hp
  simp only [show Tryz.prog.globalNamed "internal/strconv.uint64pow10" = some 0 by kernel_rfl, Option.bind_some] at hp
  rcases Nat.lt_or_ge 0 w.heap.size with h1 | h1
  · exact h1
  · rw [Array.getElem?_eq_none h1] at hp; simp at hp
theorem Tabs.under {w w' : World} {B : Nat} (h : Tabs w) (hl : Low B) (hb : Below B w w') : Tabs w' :=
  ⟨tabs_below h.tabs hb hl.a hl.b, Nat.lt_of_lt_of_le h.lt3 hb.size, Nat.lt_of_lt_of_le h.lt4 hb.size, Go.var?_below hb (by kernel_rfl) hl.c h.pow⟩
theorem itoa_from {w0 w : World} (hT : Tabs w0) (h : Below w0.heap.size w0 w) (n : Int) (h0 : -9223372036854775808 ≤ n) (h1 : n ≤ 9223372036854775807) :
    Calls Tryz.prog 57 #[.int .i64 n] w fun e w' => e = .returned (.string ⟨(Lib.itoa n).toArray⟩) ∧ Below w.heap.size w w' := by
  have ht := ((Lib.tabBelow_of_tabIs hT.pow).on h).here
  refine (Tryz.strconv_Itoa n h0 h1 w ht).mono ?_
  rintro e w' ⟨rfl, k, os, rfl⟩
  exact ⟨rfl, below_grow _ w (Nat.le_refl _) k os⟩

theorem cand_inj {f : List UInt8} {i j : Nat} (hi : 1 ≤ i) (hj : 1 ≤ j) (h : cand f i = cand f j) : i = j := by
  unfold cand at h
  split at h <;> split at h
  · omega
  · have := congrArg List.length h; simp at this
  · have := congrArg List.length h; simp at this
  · have h2 := List.append_cancel_left h
    have := itoa_inj (by omega) (by omega) (List.cons.inj h2).2
    omega
/-- so many candidates were told: not more than were told at all -/
theorem cand_le {f : List UInt8} {had : List (List UInt8)} {k : Nat} (h : ∀ j, 1 ≤ j → j ≤ k → cand f j ∈ had) : k ≤ had.length := by
  have hn : ((List.range' 1 k).map (cand f)).Nodup := by
    rw [List.Nodup, List.pairwise_map]
    have := List.nodup_range' (s := 1) (n := k)
    refine List.Pairwise.imp_of_mem ?_ this
    intro a b ha hb hab he
    have ha' := List.mem_range'.1 ha
    have hb' := List.mem_range'.1 hb
    exact hab (cand_inj (by omega) (by omega) he)
  have := nodup_sub hn (m := had) (fun x hx => by
    obtain ⟨j, hj, rfl⟩ := List.mem_map.1 hx
    have := List.mem_range'_1.1 hj
    exact h j (by omega) (by omega))
  simpa using this

theorem trimR_len (l : List UInt8) (c : UInt8) : (Lib.trimRightB l c).length ≤ l.length := by
  unfold Lib.trimRightB
  rw [List.length_reverse]
  have h1 := (List.dropWhile_suffix (fun x => x == c) (l := l.reverse)).length_le
  rwa [List.length_reverse] at h1
theorem slugL_len (l : List UInt8) : (slugL l).length ≤ 40 := by
  unfold slugL slugB cutB
  split
  · decide
  · refine Nat.le_trans (trimR_len _ _) ?_
    rw [List.length_take]; omega
theorem cand_len {f : List UInt8} (k : Nat) (hk : k ≤ 100000) : (cand f k).length ≤ f.length + 22 := by
  unfold cand
  split
  · omega
  · have := Lib.itoa_length_le (k : Int) (by omega) (by omega)
    simp; omega

def NextPost (base : Nat) (F : Nat → Prop) (b : Nat) (had : List (List UInt8)) (f : List UInt8) (w : World) (e : Ending) (w' : World) : Prop :=
  ∃ ID : ByteArray, e = .returned (.string ID) ∧ NextIs had f ID.data.toList ∧ ID.size ≤ 100 ∧ (∃ F', AncAt base F' b (had ++ [ID.data.toList]) w' ∧ ∀ k, F' k → F k ∨ w.heap.size ≤ k) ∧ Frame F w w'

theorem set_size (w : World) (b i : Nat) (x : Value) : (w.setCell ⟨b, i, none⟩ x).heap.size = w.heap.size := by simp [World.setCell]
def Mid (base : Nat) (F : Nat → Prop) (b : Nat) (had : List (List UInt8)) (w wx : World) : Prop :=
  ∃ m n, wx.heap[b]? = some (.cells #[.map (some m)] 58 (0, 0)) ∧ base ≤ m ∧ b ≠ m ∧ n ≤ had.length ∧ SetAt m n had wx ∧ (F m ∨ w.heap.size ≤ m) ∧ Frame F w wx
open Classical in
set_option maxRecDepth 100000 in
set_option maxHeartbeats 2000000 in
theorem next_any {base : Nat} {F : Nat → Prop} {b : Nat} {had : List (List UInt8)} {w : World} (h : AncAt base F b had w) (s : ByteArray) (hT : Tabs w) (hs : s.size ≤ 300000) (hl : had.length ≤ 1000) (hbw : base ≤ w.heap.size) (hlow : Low base) :
    Calls Tryz.prog 20 #[.pointer (some ⟨b, 0, none⟩), .string s] w (NextPost base F b had (slugL s.data.toList) w) := by
  have hmm := @run_makeMap Tryz.prog
  have hen := fun (w : World) (r : Option Nat) => run_eql_map_nil (P := Tryz.prog) w 56 9 4 r Tryz.underlying56
  have HT := Lib.hid hT
  have HA := Lib.hid h
  clear hT
  have hblk := h.blk
  have HF := Lib.hid hblk.1
  have hblt := hblk.2
  clear hblk
  go_enter Tryz.func20, Tryz.ntmps20
  obtain ⟨mp, hmp⟩ : ∃ mp, w.cell? ⟨b, 0, none⟩ = some (.map mp) := by
    rcases h.form with ⟨h1, h2, h3⟩ | ⟨m, n, h1, h2, h5, h4, h3⟩
    · exact ⟨_, (cell_one h1).1⟩
    · exact ⟨_, (cell_one h1).1⟩
  clear h
  go_upto_if 14 with fail
  go_cut [4] (fun _ wx => Mid base F b had w wx)
  case first =>
    have h := HA.out
    rcases h.form with ⟨h1, h2, h3⟩ | ⟨m, n, h1, h2, h5, h4, h3⟩
    · obtain ⟨c1, c2⟩ := cell_one h1
      have hmn : mp = none := by rw [hmp] at c1; simpa using c1
      subst hmn
      have H1 := Lib.hid h1
      subst h2
      have hge := h.ge
      clear h h1 h3
      have hne : ¬ b = w.heap.size := by omega
      go_wp2_with fail
      go_meet
      refine ⟨w.heap.size, 0, ?_, by omega, hne, Nat.le_refl _, ?_, .inr (Nat.le_refl _), ?_⟩
      · rw [Below.heap_alloc _ _ _ (by rw [set_size]; exact hblt)]
        simp [World.setCell, Array.getElem?_modify, H1.out]
      · have := SetAt.fresh (w.setCell ⟨b, 0, none⟩ (.map (some w.heap.size)))
        rwa [set_size] at this
      · exact (Frame.of_grown (F := F) (show w.grownBy (w.setCell ⟨b, 0, none⟩ (.map (some w.heap.size))) (some b) from ⟨rfl, rfl, rfl, by simp [World.setCell], fun k _ hk => Below.heap_setCell _ _ _ k (fun e => hk (by rw [e]))⟩) (fun k hk => by cases hk; exact HF.out)).trans (Frame.of_below (F := F) ((Below.refl _ (w.setCell ⟨b, 0, none⟩ (.map (some w.heap.size)))).alloc (Nat.le_refl _) (.map #[] 0))) (fun k hk => .inl hk)
    · obtain ⟨c1, -⟩ := cell_one h1
      have hmn : mp = some m := by rw [hmp] at c1; simpa using c1
      subst hmn
      have H1 := Lib.hid h1
      have H3 := Lib.hid h3
      have H4 := Lib.hid h4
      clear h h1 h3 h4
      go_wp2_with fail
      go_meet
      refine ⟨m, n, H1.out, h2, ?_, h5, H4.out, .inl ((H3.out m).2 (.inr rfl)), Frame.refl _ _⟩
      rintro rfl
      obtain ⟨D, ⟨es, clock, h8, -⟩, -⟩ := H4.out.at'
      rw [H1.out] at h8
      cases h8
  case rest =>
    obtain ⟨m, n, h1, h2, hne, h5, h4, hm, hfr⟩ := hcut
    have hBw : Below base w wc := hfr.to_below (fun k hk => (HA.out.lt k hk).1) hbw
    have HTc := Lib.hid (HT.out.under hlow hBw)
    have H1 := Lib.hid h1
    have H4 := Lib.hid h4
    have HM := Lib.hid hm
    have HFR := Lib.hid hfr
    have HBW := Lib.hid hBw
    clear h1 h4 hm hfr hBw hmp
    obtain ⟨f, hf⟩ : ∃ f, slugL s.data.toList = f := ⟨_, rfl⟩
    have hfl : f.length ≤ 40 := by rw [← hf]; exact slugL_len _
    go_wp2_with fail
    refine (of_any s HTc.out hs).mono ?_
    rw [hf]
    rintro e w1 ⟨rfl, hb1⟩
    replace hf := Lib.hid hf
    have c1 := (cell_one ((hb1.block b (Array.getElem?_eq_some_iff.1 H1.out).1).trans H1.out))
    obtain ⟨c1, -⟩ := c1
    have HT1 := Lib.hid (HTc.out.on hb1)
    have S1 := Lib.hid (H4.out.below hb1)
    have HB1 := Lib.hid hb1
    have hb1lt : b < w1.heap.size := Nat.lt_of_lt_of_le (Array.getElem?_eq_some_iff.1 H1.out).1 hb1.size
    clear hb1
    go_wp2_with fail
    go_loopw [6, 7] (fun id nv wr => ∃ (ID : ByteArray) (k : Nat), 1 ≤ k ∧ k ≤ had.length + 1 ∧ id = .string ID ∧ nv = .int .i64 ((k + 1 : Nat) : Int) ∧ Hid (ID.data.toList = cand f k) ∧ Hid (∀ j, 1 ≤ j → j < k → cand f j ∈ had) ∧ Below w1.heap.size w1 wr) (fun _ nv _ => had.length + 3 - (RowKit.intOf nv).toNat)
    case atStart => exact ⟨_, 1, Nat.le_refl _, by omega, rfl, rfl, Lib.hid (by unfold cand; rw [if_pos (Nat.le_refl 1)]), Lib.hid (fun j h1 h2 => by omega), Below.refl _ _⟩
    case round =>
      obtain ⟨ID, k, hk1, hk2, rfl, rfl, hID, hno, hB⟩ := hrel
      have hIDs : ID.size ≤ 62 := by rw [ba_size, hID.out]; have := cand_len (f := f) k (by omega); omega
      have c2 : wr.cell? ⟨b, 0, none⟩ = some (.map (some m)) := (hB.cell (p := ⟨b, 0, none⟩) hb1lt).trans c1
      have S2 := S1.out.below hB
      have hlk := S2.look ID (by omega)
      have HS2 := Lib.hid S2
      clear S2
      by_cases hin : ID.data.toList ∈ had
      · rw [decide_eq_true hin] at hlk
        have hk3 : k ≤ had.length := cand_le (f := f) (fun j h1 h2 => by
          rcases Nat.lt_or_ge j k with h3 | h3
          · exact hno.out j h1 h3
          · obtain rfl : j = k := by omega
            rw [← hID.out]; exact hin)
        have cIt := fun (w' : World) (h : Below w1.heap.size w1 w') => itoa_from (w0 := w1) HT1.out h ((k : Int) + 1) (by omega) (by omega)
        obtain ⟨Z, hZ⟩ : ∃ Z : ByteArray, (⟨(Lib.itoa ((k : Int) + 1)).toArray⟩ : ByteArray) = Z := ⟨_, rfl⟩
        have hZl : Z.data.toList = Lib.itoa ((k : Int) + 1) := by rw [← hZ]
        have hZs : Z.size ≤ 21 := by rw [ba_size, hZl]; exact Lib.itoa_length_le _ (by omega) (by omega)
        rw [hZ] at cIt
        replace hZ := Lib.hid hZ
        replace hZl := Lib.hid hZl
        replace hin := Lib.hid hin
        have hfs : (⟨f.toArray⟩ : ByteArray).size ≤ 40 := by rw [ba_size]; exact hfl
        rw [show ((k + 1 : Nat) : Int) = (k : Int) + 1 by omega]
        go_wp2_with (first | (go_at_call 57; refine (cIt _ hB).mono ?_; rintro e w2 ⟨rfl, hb2⟩))
        go_roundw
        case rel =>
          refine ⟨_, k + 1, by omega, by omega, rfl, by go_num, Lib.hid ?_, Lib.hid (fun j h1 h2 => ?_), hB.trans (hb2.mono hB.size)⟩
          · rw [ba_append, ba_append, hZl.out]
            unfold cand
            rw [if_neg (by omega), show ((k + 1 : Nat) : Int) = (k : Int) + 1 by omega]
            simp
          · rcases Nat.lt_or_ge j k with h3 | h3
            · exact hno.out j h1 h3
            · obtain rfl : j = k := by omega
              rw [← hID.out]; exact hin.out
        case measure => simp only [RowKit.intOf]; omega
      · rw [decide_eq_false hin] at hlk
        replace hin := Lib.hid hin
        obtain ⟨D, hD, hDs⟩ := HS2.out.at'
        have HD := Lib.hid hD
        have HDs := Lib.hid hDs
        have hkey := keyOf_str ID (by omega)
        have hnl : n < maxLen := by unfold maxLen; omega
        clear hD hDs
        go_wp2_with (first | (at_mapUpdate; refine wpList_mapUpdate_own _ rfl (.tmp 38) (.tmp 39) (.const (.bool true)) 56 rfl 9 4 skey Tryz.underlying56 (plainElem Tryz.prog 4) m n D rfl HD.out hnl (.string ID) (.bool true) (.string ID.data.toList) rfl rfl hkey (.lit (.bool true)) [] (plainElem_bool Tryz.underlying4 true) ?_; intro w3 hown3 hgr3; have HO3 := Lib.hid hown3; have HG3 := Lib.hid hgr3; clear hown3 hgr3))
        go_ret
        show NextPost base F b had (slugL s.data.toList) w _ w3
        rw [hf.out]
        refine ⟨ID, rfl, ⟨k, hk1, hID.out, by rw [← hID.out]; exact hin.out, hno.out⟩, by omega, ⟨fun x => x = b ∨ x = m, ⟨HA.out.ge, .inr ⟨m, n + 1, ?_, h2, by simp; omega, ⟨_, HO3.out, HDs.out.put (World.ownsMap.isMap HD.out) _⟩, fun _ => Iff.rfl⟩⟩, ?_⟩, ?_⟩
        · rw [HG3.out.block b (Nat.lt_of_lt_of_le hb1lt hB.size) (by simpa using hne), hB.block b hb1lt, HB1.out.block b (Array.getElem?_eq_some_iff.1 H1.out).1]
          exact H1.out
        · rintro x (rfl | rfl)
          · exact .inl HF.out
          · exact HM.out
        · have g1 := HFR.out.trans (Frame.of_below (F := fun _ => False) HB1.out) (fun _ h => h.elim)
          have g2 := g1.trans (Frame.of_below (F := fun _ => False) hB) (fun _ h => h.elim)
          exact g2.trans (Frame.of_grown (F := fun x => x = m) HG3.out (fun x hx => by cases hx; rfl)) (fun x hx => by cases hx; exact HM.out)
end Go.Proofs.YtbblgnbafecdmaaGreatDoor
