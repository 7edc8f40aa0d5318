/- SlugTells: the walk. -/
import Derived.Test.YtocgpaekaabmdaaDoorRefAnchor
import Derived.Test.YtocgpaekaabmdaaDoorAlive
import Derived.IntWalk
namespace Go.Proofs.YtocgpaekaabmdaaDoor
open Go.RowKit Go.Lib Go.Maps

theorem info_str : (Tryd.prog.info? 9).map (fun i => (i.zero, i.size, i.bytes)) = some (some (.string ⟨#[]⟩), 1, 16) := by kernel_rfl
/-- a row of strings lies in none of the anchors' blocks -/
theorem AncAt.row {base base' : Nat} {F : Nat → Prop} {b : Nat} {had : List (List UInt8)} {w : World} (h : AncAt base F b had w) {v : Value} {n : Nat} {xs : List Value} (hr : w.ownsRow base' 9 1 v n xs) : ∀ g, v.ownBlock = some g → ¬ F g := by
  intro g hg hF
  obtain ⟨-, cur, hgg⟩ := row_block hr hg
  rcases h.form with ⟨h1, -, h3⟩ | ⟨m, k, h1, -, -, h4, h3⟩
  · rw [(h3 g).1 hF, h1] at hgg
    simp only [Option.some.injEq, Obj.cells.injEq] at hgg
    exact absurd hgg.2.1 (by decide)
  · rcases (h3 g).1 hF with e | e
    · rw [e, h1] at hgg
      simp only [Option.some.injEq, Obj.cells.injEq] at hgg
      exact absurd hgg.2.1 (by decide)
    · obtain ⟨D, ⟨es, clock, h8, -⟩, -⟩ := h4.at'
      rw [e, h8] at hgg
      cases hgg
theorem news_one (w : World) (v : Value) (E : TypeId) : ∀ ad, some (⟨w.heap.size, 0, none⟩ : Addr) = some ad → ∀ j u, [v][j]? = some u → (w.alloc (.cells #[v] E)).cell? (ad.add j) = some u := by
  intro ad had j u hu
  cases had
  cases j with
  | zero => simp at hu; subst hu; simp [Addr.add]
  | succ j => simp at hu

set_option maxHeartbeats 400000 in
theorem next_none (s : ByteArray) (w : World) : Calls Tryd.prog 13 #[.pointer none, .string s] w fun e w' => e = .returned (.string ⟨#[]⟩) ∧ w' = w := by
  go_enter Tryd.func13, Tryd.ntmps13
  go_wp2_with fail
  go_ret
  exact ⟨rfl, rfl⟩
set_option maxHeartbeats 400000 in
theorem has_none (s : ByteArray) (w : World) : Calls Tryd.prog 12 #[.pointer none, .string s] w fun e w' => e = .returned (.bool false) ∧ w' = w := by
  go_enter Tryd.func12, Tryd.ntmps12
  go_wp2_with fail
  go_ret
  exact ⟨rfl, rfl⟩
/-- what stands at the head of each round -/
structure TellSt (W : World) (b : Nat) (F : Nat → Prop) (v : Value) (L : List ByteArray) (w : World) : Prop where
  anc : AncAt W.heap.size F b (hadOf L) w
  row : w.ownsRow W.heap.size 9 1 v L.length (L.map .string)
  below : Below W.heap.size W w

open Classical in
set_option maxRecDepth 100000 in
set_option maxHeartbeats 8000000 in
theorem tells_main (a : Option Addr) (cap : Nat) (l : List ByteArray) (ask : ByteArray) (W : World) (hT : Tabs W) (hl : l.length ≤ 40) (hask : ask.size ≤ 100) (hsz : ∀ s ∈ l, s.size ≤ 9223372036854775807)
    (hr : l = [] ∨ ∃ b o, a = some ⟨b, o, none⟩ ∧ b < W.heap.size ∧ ∀ i (h : i < l.length), W.cell? ⟨b, o + i, none⟩ = some (.string l[i])) :
    Calls Tryd.prog 3 #[.slice a l.length cap, .string ask] W fun e w' => e = .returned (.bool true) ∧ Below W.heap.size W w' := by
  have hi : (l.length : Int) ≤ 40 := by omega
  have hak : decide ((100 : Int) < ask.size) = false := by simp only [decide_eq_false_iff_not]; omega
  have HR := Lib.hid hr
  have HSZ := Lib.hid hsz
  have HT := Lib.hid hT
  have HLOW := Lib.hid hT.low
  clear hr hsz hT
  obtain ⟨i0, hi, hz0, hz1, hz2⟩ := info_parts info_str
  have HI0 : Hid (Tryd.prog.info? 9 = some i0 ∧ i0.zero = some (.string ⟨#[]⟩) ∧ i0.size = 1 ∧ i0.bytes = 16) := ⟨hi, hz0, hz1, hz2⟩
  clear hi hz0 hz1 hz2
  have hi : (l.length : Int) ≤ 40 := by omega
  go_enter Tryd.func3, Tryd.ntmps3
  go_wp2_with fail
  refine (alive_any HT.out).mono ?_
  rintro e w1 ⟨rfl, hb1⟩
  have hs1 := hb1.size
  have HS0 := Lib.hid (show TellSt W w1.heap.size (· = w1.heap.size) (.slice none 0 0) [] (w1.alloc (.cells #[.map none] 27)) from
    ⟨AncAt.fresh W.heap.size w1 hs1, World.ownsRow_nil _ _ _ _, hb1.alloc hs1 _⟩)
  clear hb1
  go_wp2_with fail
  go_loopw [6, 28] (fun hv vi wr => ∃ (k : Nat) (L : List ByteArray) (F : Nat → Prop) (v : Value), v = hv ∧ k ≤ l.length ∧ vi = .int .i64 k ∧ L.length = k ∧ Hid (TellSt W w1.heap.size F v L wr)) (fun _ vi _ => l.length - (RowKit.intOf vi).toNat)
  case atStart => exact ⟨0, [], _, _, rfl, Nat.zero_le _, rfl, rfl, HS0⟩
  case round =>
    obtain ⟨k, L, F, v, rfl, hk, rfl, hLk, HS⟩ := hrel
    by_cases hlt : k < l.length
    · rcases HR.out with h9 | ⟨ab, ao, ha, hbl, hcell⟩
      · rw [h9] at hlt; simp at hlt
      subst ha
      have hc := (HS.out.below.cell (p := ⟨ab, ao + k, none⟩) hbl).trans (hcell k hlt)
      have hxs := HSZ.out l[k] (List.getElem_mem _)
      clear hcell
      generalize l[k] = x at *
      have hLb : L.length ≤ 40 := by omega
      have HLK := Lib.hid hLk
      clear hLk
      by_cases hx : x.size ≤ 100
      · have cRA := refAnchor_any v L x (namesIn_row HS.out.row) (by omega) (HT.out.under HLOW.out HS.out.below) (by omega)
        go_wp2_with fail
        refine cRA.mono ?_
        rintro e w2 ⟨ID, rfl, hnx, hids, hb2⟩
        have HNX := Lib.hid hnx
        have HB2 := Lib.hid (HS.out.below.trans (hb2.mono HS.out.below.size))
        have HA2 := Lib.hid (HS.out.anc.below hb2)
        have HR2 := Lib.hid ((Frame.of_below (F := fun _ => False) hb2).row HS.out.row (fun _ _ h => h))
        clear hnx hb2 cRA
        obtain ⟨X, hX⟩ : ∃ X : ByteArray, (⟨(slugL x.data.toList).toArray⟩ : ByteArray) = X := ⟨_, rfl⟩
        have cOf : ∀ w, Tabs w → Calls Tryd.prog 10 #[.string x] w fun e w' => e = .returned (.string X) ∧ Below w.heap.size w w' := fun w hT => by
          have := of_any x hT (by omega); rw [hX] at this; exact this
        have cRf : ∀ w, Tabs w → Calls Tryd.prog 11 #[.string x] w fun e w' => e = .returned (.string X) ∧ Below w.heap.size w w' := fun w hT => by
          have := refSlug_any x hT (by omega); rw [hX] at this; exact this
        replace hX := Lib.hid hX
        go_wp2_with fail
        refine (cOf _ (HT.out.under HLOW.out HB2.out)).mono ?_
        rintro e w3 ⟨rfl, hb3⟩
        have HB3 := Lib.hid (HB2.out.trans (hb3.mono HB2.out.size))
        have HA3 := Lib.hid (HA2.out.below hb3)
        have HR3 := Lib.hid ((Frame.of_below (F := fun _ => False) hb3).row HR2.out (fun _ _ h => h))
        clear hb3 cOf
        go_wp2_with fail
        refine (cRf _ (HT.out.under HLOW.out HB3.out)).mono ?_
        rintro e w4 ⟨rfl, hb4⟩
        have HB4 := Lib.hid (HB3.out.trans (hb4.mono HB3.out.size))
        have HA4 := Lib.hid (HA3.out.below hb4)
        have HR4 := Lib.hid ((Frame.of_below (F := fun _ => False) hb4).row HR3.out (fun _ _ h => h))
        clear hb4 cRf
        have hnin : ID.data.toList ∉ hadOf L := by
          obtain ⟨j, -, e, h8, -⟩ := HNX.out
          rw [e]; exact h8
        have cH := has_any HA4.out ID (by omega)
        rw [decide_eq_false hnin] at cH
        clear hnin
        go_wp2_with fail
        refine cH.mono ?_
        rintro e w5 ⟨rfl, hb5⟩
        have HB5 := Lib.hid (HB4.out.trans (hb5.mono HB4.out.size))
        have HA5 := Lib.hid (HA4.out.below hb5)
        have HR5 := Lib.hid ((Frame.of_below (F := fun _ => False) hb5).row HR4.out (fun _ _ h => h))
        clear hb5 cH
        have cNx := next_any HA5.out x (HT.out.under HLOW.out HB5.out) (by omega) (by unfold hadOf; simp; omega) HB5.out.size HLOW.out
        go_wp2_with fail
        refine cNx.mono ?_
        rintro e w6 ⟨ID2, rfl, hnx2, -, ⟨F6, hA6, -⟩, hfr6⟩
        have hid : ID2 = ID := ba_eq (hnx2.uniq HNX.out)
        subst hid
        have HB6 := Lib.hid (HB5.out.trans (hfr6.to_below (fun q hq => (HA5.out.lt q hq).1) HB5.out.size))
        have HA6 := Lib.hid hA6
        have HR6 := Lib.hid (hfr6.row HR5.out (HA5.out.row HR5.out))
        clear hnx2 hfr6 hA6 cNx
        have cH2 := has_any HA6.out ID2 (by omega)
        rw [decide_eq_true (show ID2.data.toList ∈ hadOf L ++ [ID2.data.toList] by simp)] at cH2
        go_wp2_with fail
        refine cH2.mono ?_
        rintro e w7 ⟨rfl, hb7⟩
        have HB7 := Lib.hid (HB6.out.trans (hb7.mono HB6.out.size))
        have HA7 := Lib.hid (HA6.out.below hb7)
        have HR7 := Lib.hid ((Frame.of_below (F := fun _ => False) hb7).row HR6.out (fun _ _ h => h))
        clear hb7 cH2
        have hm1 : L.length + 1 ≤ maxLen := by unfold maxLen; omega
        have hm2 : (L.length + 1) * 16 ≤ 140737488355328 := by omega
        have hba : W.heap.size ≤ (w7.alloc (.cells #[.string ID2] 9)).heap.size := by have := HB7.out.size; simp; omega
        go_wp2_with (first
          | (at_builtin; refine wpList_append_any rfl (.tmp 61) (.tmp 63) 22 rfl W.heap.size 9 i0 (.string ⟨#[]⟩) 1 16 Tryd.underlying22 HI0.out.1 HI0.out.2.1 HI0.out.2.2.1 HI0.out.2.2.2 rfl (by decide) v L.length (L.map .string) rfl (HR7.out.alloc _) (some ⟨w7.heap.size, 0, none⟩) 1 1 [.string ID2] rfl rfl (fun h => by cases h) (news_one w7 _ _) (fun u hu => by rw [List.mem_singleton.1 hu]; rfl) hm1 hm2 hba ?_; intro v8 w8 hown8 hgr8 hblk8; have HO8 := Lib.hid hown8; have HG8 := Lib.hid hgr8; clear hown8 hgr8 hblk8))
        have hfr8 : Frame (fun q => v.ownBlock = some q) w7 w8 := ((Frame.of_below (F := fun _ => False) ((Below.refl _ w7).alloc (Nat.le_refl _) (.cells #[.string ID2] 9))).weaken (fun _ h => h.elim)).trans (Frame.of_grown HG8.out (fun q hq => hq)) (fun q hq => .inl hq)
        have hA8 : AncAt W.heap.size F6 w1.heap.size (hadOf (L ++ [ID2])) w8 := by
          have e : hadOf (L ++ [ID2]) = hadOf L ++ [ID2.data.toList] := by simp [hadOf]
          rw [e]
          exact HA7.out.frame hfr8 (fun q hq hg => HA7.out.row HR7.out q hg hq)
        have hR8 : w8.ownsRow W.heap.size 9 1 v8 (L ++ [ID2]).length ((L ++ [ID2]).map .string) := by
          rw [List.length_append, List.map_append]; exact HO8.out
        have hB8 : Below W.heap.size W w8 := hfr8.on_below (fun q hq => (HR7.out.lt q hq).1) HB7.out (Nat.le_refl _)
        have HS8 := Lib.hid (show TellSt W w1.heap.size F6 v8 (L ++ [ID2]) w8 from ⟨hA8, hR8, hB8⟩)
        have cHa := has_any hA8 ask (by omega)
        have cAt := fun (w' : World) (hb : Below w8.heap.size w8 w') => refAt_any (w := w') v8 (L ++ [ID2]) ask ((namesIn_row hR8).below hb) (by simp; omega)
        obtain ⟨ix, hix⟩ : ∃ ix, idxName ask (L ++ [ID2]) 0 = ix := ⟨_, rfl⟩
        have hneg := idx_neg (L := L ++ [ID2]) (x := ask)
        rw [hix] at cAt hneg
        obtain ⟨q, hq⟩ : ∃ q, decide (ask.data.toList ∈ hadOf (L ++ [ID2])) = q := ⟨_, rfl⟩
        have hqi : decide (0 ≤ ix) = q := by
          rw [← hq]
          by_cases h9 : ask.data.toList ∈ hadOf (L ++ [ID2])
          · rw [decide_eq_true h9, decide_eq_true]
            rcases Int.lt_or_le ix 0 with h8 | h8
            · exact absurd h9 (hneg.1 h8)
            · exact h8
          · rw [decide_eq_false h9, decide_eq_false]
            have := hneg.2 h9
            omega
        rw [hq] at cHa
        replace hix := Lib.hid hix
        replace hq := Lib.hid hq
        clear hneg hfr8 hA8 hR8 hB8
        have hL8 := Lib.hid (show (L ++ [ID2]).length = k + 1 by rw [List.length_append, HLK.out]; rfl)
        cases q
        all_goals refine cHa.mono ?_
        all_goals rintro e w9 ⟨rfl, hb9⟩
        all_goals have cA9 := cAt _ hb9
        all_goals have HS9 := Lib.hid (show TellSt W w1.heap.size F6 v8 (L ++ [ID2]) w9 from ⟨HS8.out.anc.below hb9, (Frame.of_below (F := fun _ => False) hb9).row HS8.out.row (fun _ _ h => h), HS8.out.below.trans (hb9.mono HS8.out.below.size)⟩)
        all_goals clear hb9 cAt cHa
        all_goals go_wp2_with fail
        all_goals refine cA9.mono ?_
        all_goals rintro e w10 ⟨rfl, hw10⟩
        all_goals subst hw10
        all_goals clear cA9
        all_goals go_wp2_with fail
        all_goals first
          | (go_roundw
             case rel => exact ⟨k + 1, L ++ [ID2], F6, v8, rfl, by omega, by go_num, hL8.out, HS9⟩
             case measure => simp only [RowKit.intOf]; omega)
      · have hx9 : decide ((100 : Int) < x.size) = true := by simp only [decide_eq_true_eq]; omega
        go_wp2_with fail
        go_ret
        exact ⟨rfl, HS.out.below⟩
    · go_wp2_with fail
      refine (next_none _ _).mono ?_
      rintro e w2 ⟨rfl, hw2⟩
      subst hw2
      go_wp2_with fail
      refine (has_none _ _).mono ?_
      rintro e w3 ⟨rfl, hw3⟩
      subst hw3
      go_wp2_with fail
      go_ret
      exact ⟨rfl, HS.out.below⟩

theorem slugTells_walk (v : Value) (ask : ByteArray) (W : World) (hT : Tabs W) (h : ∃ l : List ByteArray, RowIn W W.heap.size v (l.map Value.string) ∧ ∀ s ∈ l, s.size ≤ 9223372036854775807) (_hk : ask.size ≤ 9223372036854775807) :
    Calls Tryd.prog 3 #[v, .string ask] W fun e w' => e = .returned (.bool true) ∧ Below W.heap.size W w' := by
  obtain ⟨l, ⟨a, cap, rfl, hlc, hcm, hr⟩, hs⟩ := h
  simp only [List.length_map] at *
  by_cases hl : l.length ≤ 40 ∧ ask.size ≤ 100
  · refine tells_main a cap l ask W hT hl.1 hl.2 hs ?_
    rcases hr with hr | ⟨b, o, ha, hb, hc⟩
    · exact .inl (by simpa using hr)
    · exact .inr ⟨b, o, ha, hb, fun i h => by
      have h9 := hc i h
      rw [List.getElem_map] at h9
      exact h9⟩
  · have hcase : decide ((40 : Int) < l.length) = true ∨ (decide ((40 : Int) < l.length) = false ∧ decide ((100 : Int) < ask.size) = true) := by
      simp only [decide_eq_true_eq, decide_eq_false_iff_not]; omega
    have ha := fun w => @alive_any w
    have HT := Lib.hid hT
    clear hr hT hl
    rcases hcase with t1 | ⟨t1, t2⟩
    all_goals go_enter Tryd.func3, Tryd.ntmps3
    all_goals go_wp2_with fail
    all_goals refine (ha _ HT.out).mono ?_
    all_goals rintro e w1 ⟨rfl, hb1⟩
    all_goals go_wp2_with fail
    all_goals go_ret
    all_goals exact ⟨rfl, hb1⟩
end Go.Proofs.YtocgpaekaabmdaaDoor
