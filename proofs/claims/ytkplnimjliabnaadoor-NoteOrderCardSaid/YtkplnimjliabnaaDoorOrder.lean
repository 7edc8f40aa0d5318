/- NoteOrder: the walk. -/
import Derived.Test.YtkplnimjliabnaaDoorOrderLaw
import Derived.Test.YtkplnimjliabnaaDoorRow
namespace Go.Proofs.YtkplnimjliabnaaDoor
open Go.RowKit Go.Lib Go.Maps

/-- what stands at the head of each round -/
structure OrderSt (w0 : World) (b m1 m2 k : Nat) (L : List ByteArray) (C : List Int) (F : Nat → Prop) (D1 D2 : DataW Unit) (w : World) : Prop where
  below : Below w0.heap.size w0 w
  notes : NotesAt 30 w0.heap.size F b L C w
  map1 : MapAt m1 k D1 w
  map2 : MapAt m2 k D2 w
  first : FirstIs D1 L
  times : TimesIs D2 L C
  nodup : L.Nodup
  len : L.length ≤ k
  names : ∀ x ∈ L, x.size ≤ 9223372036854775807
  nums : ∀ c ∈ C, 0 ≤ c ∧ c ≤ k
  out1 : ¬ F m1
  out2 : ¬ F m2
  ge1 : w0.heap.size ≤ m1
  ge2 : w0.heap.size ≤ m2

theorem neq_int {a : Int} : (a != a) = false := by simp

set_option maxRecDepth 100000 in
set_option maxHeartbeats 8000000 in
theorem order_main (a : Option Addr) (cap : Nat) (l : List ByteArray) (W : World) (hT : Tabs W) (hl : l.length ≤ 60) (hsz : ∀ s ∈ l, s.size ≤ 9223372036854775807)
    (hr : l = [] ∨ ∃ b o, a = some ⟨b, o, none⟩ ∧ b < W.heap.size ∧ ∀ i (h : i < l.length), W.cell? ⟨b, o + i, none⟩ = some (.string l[i])) :
    Calls Tryd.prog 5 #[.slice a l.length cap] W fun e w' => e = .returned (.bool true) ∧ Below W.heap.size W w' := by
  have h0 := Below.refl W.heap.size W
  have hi : (l.length : Int) ≤ 60 := by omega
  have HR := Lib.hid hr
  have HSZ := Lib.hid hsz
  clear hr hsz
  have hmm := @run_makeMap Tryd.prog
  go_enter Tryd.func5, Tryd.ntmps5
  go_wp2_with fail
  refine (alive_from (by assumption) hT).mono ?_
  rintro e w1 ⟨rfl, hb1⟩
  go_wp2_with fail
  have hs1 := hb1.size
  have hB2 := ((hb1.alloc hs1 (.cells #[.slice none 0 0, .slice none 0 0] 30)).alloc (by simp; omega) (.map #[] 0)).alloc (by simp; omega) (.map #[] 0)
  have N0 := NotesAt.fresh (T := 30) (base := W.heap.size) w1 hs1
  have f1 : Frame (fun _ => False) (w1.alloc (.cells #[.slice none 0 0, .slice none 0 0] 30)) (((w1.alloc (.cells #[.slice none 0 0, .slice none 0 0] 30)).alloc (.map #[] 0)).alloc (.map #[] 0)) :=
    Frame.of_below (((Below.refl _ _).alloc (Nat.le_refl _) _).alloc (by simp) _)
  have hz1 : (w1.alloc (.cells #[.slice none 0 0, .slice none 0 0] 30)).heap.size = w1.heap.size + 1 := by simp
  have hz2 : ((w1.alloc (.cells #[.slice none 0 0, .slice none 0 0] 30)).alloc (.map #[] 0)).heap.size = w1.heap.size + 1 + 1 := by simp
  have S0 : OrderSt W w1.heap.size (w1.heap.size + 1) (w1.heap.size + 1 + 1) 0 [] [] (· = w1.heap.size) (.map []) (.map []) (((w1.alloc (.cells #[.slice none 0 0, .slice none 0 0] 30)).alloc (.map #[] 0)).alloc (.map #[] 0)) :=
    ⟨hB2, N0.frame f1 (fun _ _ h => h), by rw [← hz1]; exact (World.ownsMap_made _ _ _ _).alloc _, by rw [← hz2]; exact World.ownsMap_made _ _ _ _, first_start, times_start, List.nodup_nil, Nat.le_refl _, (fun _ h => by cases h), (fun _ h => by cases h), (fun h => by have h' : w1.heap.size + 1 = w1.heap.size := h; omega), (fun h => by have h' : w1.heap.size + 1 + 1 = w1.heap.size := h; omega), by omega, by omega⟩
  have HS0 := Lib.hid S0
  clear hB2 N0 f1 S0 hz1 hz2
  go_loopw [30] (fun vi wr => ∃ (k : Nat) (L : List ByteArray) (C : List Int) (F : Nat → Prop) (D1 D2 : DataW Unit), k ≤ l.length ∧ vi = .int .i64 k ∧ OrderSt W w1.heap.size (w1.heap.size + 1) (w1.heap.size + 1 + 1) k L C F D1 D2 wr) (fun vi _ => l.length - (RowKit.intOf vi).toNat)
  case atStart => exact ⟨0, _, _, _, _, _, Nat.zero_le _, rfl, HS0.out⟩
  case round =>
    obtain ⟨k, L, C, F, D1, D2, hk, rfl, hS⟩ := hrel
    have HS := Lib.hid hS
    clear hS HS0
    have hLn : L.length ≤ 100000 := by have := HS.out.len; omega
    by_cases hlt : k < l.length
    · rcases HR.out with h9 | ⟨ab, ao, ha, hbl, hcell⟩
      · rw [h9] at hlt; simp at hlt
      subst ha
      have hc := (HS.out.below.cell (p := ⟨ab, ao + k, none⟩) hbl).trans (hcell k hlt)
      have hxs := HSZ.out l[k] (List.getElem_mem _)
      clear hcell
      generalize l[k] = x at *
      have hkey := keyOf_str x hxs
      have hkm : k < maxLen := by unfold maxLen; omega
      by_cases hmem : x ∈ L
      · obtain ⟨i, hiL, hidx, -, -⟩ := idx_some hmem 0
        rw [Nat.zero_add] at hidx
        have hiC : i < C.length := by rw [HS.out.notes.len]; exact hiL
        obtain ⟨c, hck⟩ : ∃ c, C[i]? = some c := ⟨C[i], List.getElem?_eq_getElem hiC⟩
        clear hmem hiC
        have hcnt := cnt_found hidx hck
        have hat2 : D2.atKey (.string x.data.toList) (.lit (.int .i64 0)) = .lit (.int .i64 c) := by rw [HS.out.times x, hcnt]
        have hhas : has D1 (.string x.data.toList) = true := by rw [(HS.out.first.2 x).1, hidx]; exact decide_eq_true (by omega)
        have hat1 : D1.atKey (.string x.data.toList) (.lit (.int .i64 0)) = .lit (.int .i64 ((i : Int) + 1)) := by rw [(HS.out.first.2 x).2, hidx]
        have HAT1 := Lib.hid hat1
        have HAT2 := Lib.hid hat2
        have HCK := Lib.hid hck
        have HIDX := Lib.hid hidx
        have hcb := HS.out.nums c (List.mem_of_getElem? hck)
        have hib : i < 61 := by have := (List.getElem?_eq_some_iff.1 hck).1; have := HS.out.notes.len; have := HS.out.len; omega
        have HCB := Lib.hid hcb
        have hc0 : 0 ≤ c := hcb.1
        have hc1 : c ≤ 61 := by omega
        clear hcnt hat2 hat1 hck hidx hcb
        go_wp2_with (first
          | (at_lookup; refine wpList_lookup_own_ok_int _ rfl (.tmp 35) (.tmp 36) 53 rfl 9 3 .i64 skey Tryd.underlying53 Tryd.underlying3 (zeroInt _) (w1.heap.size + 1) k D1 rfl HS.out.map1 (.string x) (.string x.data.toList) rfl hkey ?_; intro c9 hat9 hwc9; clear hat9 hwc9)
          | (at_lookup; refine wpList_lookup_own_int _ rfl (.tmp 48) (.tmp 49) 53 rfl 9 3 .i64 skey Tryd.underlying53 Tryd.underlying3 (zeroInt _) (w1.heap.size + 1 + 1) k D2 rfl HS.out.map2 (.string x) (.string x.data.toList) rfl hkey ?_; intro c8 hat8 hwc8; obtain rfl : c = c8 := (by have h7 := HAT2.out.symm.trans hat8; simpa using h7); clear hat8 hwc8)
          | (at_mapUpdate; refine wpList_mapUpdate_own _ rfl (.tmp 48) (.tmp 49) (.tmp 51) 53 rfl 9 3 skey Tryd.underlying53 (plainElem Tryd.prog 3) (w1.heap.size + 1 + 1) k D2 rfl HS.out.map2 hkm (.string x) (.int .i64 (c + 1)) (.string x.data.toList) rfl rfl hkey (.lit (.int .i64 (c + 1))) [] (plainElem_int Tryd.underlying3 (WalkArith.wf_i64 (by omega))) ?_; intro w3 hown3 hgr3))
        have hN3 : NotesAt 30 W.heap.size F w1.heap.size L C w3 := HS.out.notes.frame (Frame.of_grown (F := fun q => q = w1.heap.size + 1 + 1) hgr3 (fun q hq => by cases hq; rfl)) (fun q hq e => HS.out.out2 (e ▸ hq))
        have hM13 : MapAt (w1.heap.size + 1) k D1 w3 := HS.out.map1.grown hgr3 (by simp)
        have hB3 := HS.out.below.grown hgr3 HS.out.below.size (fun q hq => by cases hq; exact HS.out.ge2)
        refine (ref_found hN3 HCK.out HIDX.out hLn hxs HS.out.names hc0 (by omega)).mono ?_
        rintro e w4 ⟨rfl, hN4, hfr4⟩
        have hM14 := hM13.frame hfr4 HS.out.out1
        have hM24 : MapAt (w1.heap.size + 1 + 1) (k + 1) (D2.put (.string x.data.toList) (.lit (.int .i64 (c + 1)))) w4 := MapAt.frame hown3 hfr4 HS.out.out2
        have hB4 := hfr4.on_below (fun q hq => (hN3.lt q hq).1) hB3 (Nat.le_refl _)
        have hT2 := times_again HS.out.times (World.ownsMap.isMap HS.out.map2) HIDX.out HCK.out
        have hlk1 := map_look hM14 x hxs HAT1.out
        have hlk2 := map_look hM24 x hxs (by rw [hT2 x, cnt_found HIDX.out (c := c + 1) (by have := (List.getElem?_eq_some_iff.1 HCK.out).1; simp [this])])
        have cc : ∀ d os, Calls Tryd.prog 15 #[.pointer (some ⟨w1.heap.size, 0, none⟩), .string x] (Sort.grow (redrawn w4 d) os) fun e w'' => e = .returned (.int .i64 (c + 1)) ∧ ∃ p : Regrown, w'' = Sort.grow (redrawn w4 p.d) p.os := fun d os => Calls.regrown_of (times_found (by have := (List.getElem?_eq_some_iff.1 HCK.out).1; simp [this]) (hN4.frame (Frame.of_below (F := fun _ => False) (below_regrown w4 d os)) (fun _ _ h => h)) HIDX.out hLn hxs HS.out.names)
        have HN4 := Lib.hid hN4
        have HM14 := Lib.hid hM14
        have HM24 := Lib.hid hM24
        have HB4 := Lib.hid hB4
        have HT2 := Lib.hid hT2
        clear hN3 hM13 hB3 hN4 hM14 hM24 hB4 hT2 hfr4 hown3 hgr3 hhas
        go_wp2_with fail
        have e1 : IntKind.i64.wrap ((i : Int) + 1) = (i : Int) + 1 := IntWalk.i64_in _ (by omega)
        refine wp_region_quiet_below (by kernel_rfl) (by kernel_rfl) ?_
        repeat (quiet_step (exact cc _ _))
        refine wpQuiet_nil ?_
        intro _ hw'
        obtain ⟨⟨dq, osq⟩, hw''⟩ := hw'
        subst hw''
        clear hlk1 hlk2 cc e1
        have hbr := below_regrown w4 dq osq
        have hN5 := HN4.out.frame (Frame.of_below (F := fun _ => False) hbr) (fun _ _ h => h)
        have hM15 := HM14.out.kept (hbr.block _ HM14.out.lt)
        have hM25 := HM24.out.kept (hbr.block _ HM24.out.lt)
        have HS5 : Hid (OrderSt W w1.heap.size (w1.heap.size + 1) (w1.heap.size + 1 + 1) (k + 1) L (C.set i (c + 1)) F D1 (D2.put (.string x.data.toList) (.lit (.int .i64 (c + 1)))) (Sort.grow (redrawn w4 dq) osq)) :=
          ⟨HB4.out.trans (hbr.mono HB4.out.size), hN5, World.ownsMap.mono hM15 (by omega), hM25, HS.out.first, HT2.out, HS.out.nodup, by have := HS.out.len; omega, HS.out.names, fun z hz => by
            rcases List.mem_or_eq_of_mem_set hz with hz | rfl
            · have := HS.out.nums z hz; omega
            · have := HCB.out; omega, HS.out.out1, HS.out.out2, HS.out.ge1, HS.out.ge2⟩
        clear hbr hN5 hM15 hM25
        go_wp2_with fail
        go_roundw
        case rel => exact ⟨k + 1, L, _, F, D1, _, by omega, by go_num, HS5.out⟩
        case measure => simp [RowKit.intOf]; omega
      · have hidx := idx_none hmem 0
        have hlenC := HS.out.notes.len
        have hat2 : D2.atKey (.string x.data.toList) (.lit (.int .i64 0)) = .lit (.int .i64 0) := by rw [HS.out.times x, cnt_none hmem]
        have hhas : has D1 (.string x.data.toList) = false := by rw [(HS.out.first.2 x).1, hidx]; rfl
        have hsize : size D1 = L.length := HS.out.first.1
        have HAT2 := Lib.hid hat2
        have HIDX := Lib.hid hidx
        have HMEM := Lib.hid hmem
        have HLC := Lib.hid hlenC
        have hLk : L.length ≤ 61 := by have := HS.out.len; omega
        clear hat2 hidx hmem hlenC
        go_wp2_with (first
          | (at_lookup; refine wpList_lookup_own_ok_int _ rfl (.tmp 35) (.tmp 36) 53 rfl 9 3 .i64 skey Tryd.underlying53 Tryd.underlying3 (zeroInt _) (w1.heap.size + 1) k D1 rfl HS.out.map1 (.string x) (.string x.data.toList) rfl hkey ?_; intro c9 hat9 hwc9; clear hat9 hwc9)
          | (at_len; refine wpList_len_own _ rfl (.tmp 42) 53 rfl 9 3 Tryd.underlying53 (plainElem Tryd.prog 3) (w1.heap.size + 1) k D1 rfl HS.out.map1 ?_)
          | (at_mapUpdate; refine wpList_mapUpdate_own _ rfl (.tmp 45) (.tmp 46) (.tmp 47) 53 rfl 9 3 skey Tryd.underlying53 (plainElem Tryd.prog 3) (w1.heap.size + 1) k D1 rfl HS.out.map1 hkm (.string x) (.int .i64 (L.length + 1)) (.string x.data.toList) rfl rfl hkey (.lit (.int .i64 (L.length + 1))) [] (plainElem_int Tryd.underlying3 (WalkArith.wf_i64 (by omega))) ?_; intro w2 hown2 hgr2; have HO2 := Lib.hid hown2; have HG2 := Lib.hid hgr2; clear hown2 hgr2)
          | (at_lookup; refine wpList_lookup_own_int _ rfl (.tmp 48) (.tmp 49) 53 rfl 9 3 .i64 skey Tryd.underlying53 Tryd.underlying3 (zeroInt _) (w1.heap.size + 1 + 1) k D2 rfl (HS.out.map2.grown HG2.out (by simp)) (.string x) (.string x.data.toList) rfl hkey ?_; intro c8 hat8 hwc8; obtain rfl : 0 = c8 := (by have h7 := HAT2.out.symm.trans hat8; simpa using h7); clear hat8 hwc8)
          | (at_mapUpdate; refine wpList_mapUpdate_own _ rfl (.tmp 48) (.tmp 49) (.tmp 51) 53 rfl 9 3 skey Tryd.underlying53 (plainElem Tryd.prog 3) (w1.heap.size + 1 + 1) k D2 rfl (HS.out.map2.grown HG2.out (by simp)) hkm (.string x) (.int .i64 1) (.string x.data.toList) rfl rfl hkey (.lit (.int .i64 1)) [] (plainElem_int Tryd.underlying3 (WalkArith.wf_i64 (by omega))) ?_; intro w3 hown3 hgr3))
        have fr2 : Frame (fun q => q = w1.heap.size + 1) wr w2 := Frame.of_grown HG2.out (fun q hq => by cases hq; rfl)
        have fr3 : Frame (fun q => q = w1.heap.size + 1 + 1) w2 w3 := Frame.of_grown hgr3 (fun q hq => by cases hq; rfl)
        have hN3 : NotesAt 30 W.heap.size F w1.heap.size L C w3 := (HS.out.notes.frame fr2 (fun q hq e => HS.out.out1 (e ▸ hq))).frame fr3 (fun q hq e => HS.out.out2 (e ▸ hq))
        have hM13 : MapAt (w1.heap.size + 1) (k + 1) (D1.put (.string x.data.toList) (.lit (.int .i64 (L.length + 1)))) w3 := MapAt.grown HO2.out hgr3 (by simp)
        have hB3 := (HS.out.below.grown HG2.out HS.out.below.size (fun q hq => by cases hq; exact HS.out.ge1))
        have hB3' := hB3.grown hgr3 hB3.size (fun q hq => by cases hq; exact HS.out.ge2)
        refine (ref_new hN3 HIDX.out hLn hxs HS.out.names hB3'.size).mono ?_
        rintro e w4 ⟨rfl, ⟨F', hN4, hFF⟩, hfr4⟩
        have hM23 : MapAt (w1.heap.size + 1 + 1) (k + 1) (D2.put (.string x.data.toList) (.lit (.int .i64 1))) w3 := hown3
        have hM14 := hM13.frame hfr4 HS.out.out1
        have hM24 := hM23.frame hfr4 HS.out.out2
        have hB4 := hfr4.on_below (fun q hq => (hN3.lt q hq).1) hB3' (Nat.le_refl _)
        have ho1 : ¬ F' (w1.heap.size + 1) := fun h => by rcases hFF _ h with h | h; exact HS.out.out1 h; have := hM13.lt; omega
        have ho2 : ¬ F' (w1.heap.size + 1 + 1) := fun h => by rcases hFF _ h with h | h; exact HS.out.out2 h; have := hM23.lt; omega
        have hT1 := first_put HS.out.first (World.ownsMap.tidy HS.out.map1 skey) HMEM.out
        have hT2 := times_first HS.out.times (World.ownsMap.isMap HS.out.map2) HMEM.out HLC.out
        have hidx2 : idxName x (L ++ [x]) 0 = (L.length : Nat) := by rw [idx_app, if_neg HMEM.out, if_pos rfl]; simp
        have hck2 : (C ++ [1])[L.length]? = some 1 := by rw [← HLC.out]; simp
        have hnm2 : ∀ y ∈ L ++ [x], y.size ≤ 9223372036854775807 := fun y hy => by
          rcases List.mem_append.1 hy with hy | hy
          · exact HS.out.names y hy
          · rw [List.mem_singleton.1 hy]; exact hxs
        have hlk1 := map_look hM14 x hxs (by rw [(hT1.2 x).2, hidx2])
        have hlk2 := map_look hM24 x hxs (by rw [hT2 x, cnt_found hidx2 hck2])
        have cc : ∀ d os, Calls Tryd.prog 15 #[.pointer (some ⟨w1.heap.size, 0, none⟩), .string x] (Sort.grow (redrawn w4 d) os) fun e w'' => e = .returned (.int .i64 1) ∧ ∃ p : Regrown, w'' = Sort.grow (redrawn w4 p.d) p.os := fun d os => Calls.regrown_of (times_found hck2 (hN4.frame (Frame.of_below (F := fun _ => False) (below_regrown w4 d os)) (fun _ _ h => h)) hidx2 (by simp; omega) hxs hnm2)
        have HN4 := Lib.hid hN4
        have HM14 := Lib.hid hM14
        have HM24 := Lib.hid hM24
        have HB4 := Lib.hid hB4
        have HT1 := Lib.hid hT1
        have HT2 := Lib.hid hT2
        have HNM := Lib.hid hnm2
        have HO1 := Lib.hid ho1
        have HO22 := Lib.hid ho2
        clear hN3 hM13 hB3 hB3' hN4 hM14 hM24 hM23 hB4 hT1 hT2 hfr4 hown3 hgr3 hhas hsize fr2 fr3 hFF ho1 ho2 hidx2 hck2 hnm2
        go_wp2_with fail
        have e1 : IntKind.i64.wrap ((L.length : Int) + 1) = (L.length : Int) + 1 := IntWalk.i64_in _ (by omega)
        refine wp_region_quiet_below (by kernel_rfl) (by kernel_rfl) ?_
        repeat (quiet_step (exact cc _ _))
        refine wpQuiet_nil ?_
        intro _ hw'
        obtain ⟨⟨dq, osq⟩, hw''⟩ := hw'
        subst hw''
        clear hlk1 hlk2 cc e1
        have hbr := below_regrown w4 dq osq
        have hN5 := HN4.out.frame (Frame.of_below (F := fun _ => False) hbr) (fun _ _ h => h)
        have hM15 := HM14.out.kept (hbr.block _ HM14.out.lt)
        have hM25 := HM24.out.kept (hbr.block _ HM24.out.lt)
        have HS5 : Hid (OrderSt W w1.heap.size (w1.heap.size + 1) (w1.heap.size + 1 + 1) (k + 1) (L ++ [x]) (C ++ [1]) F' (D1.put (.string x.data.toList) (.lit (.int .i64 (L.length + 1)))) (D2.put (.string x.data.toList) (.lit (.int .i64 1))) (Sort.grow (redrawn w4 dq) osq)) :=
          ⟨HB4.out.trans (hbr.mono HB4.out.size), hN5, hM15, hM25, HT1.out, HT2.out, List.nodup_append.2 ⟨HS.out.nodup, by simp, fun y hy z hz e => by rw [List.mem_singleton.1 hz] at e; subst e; exact HMEM.out hy⟩, by have := HS.out.len; simp; omega, HNM.out, fun z hz => by
            rcases List.mem_append.1 hz with hz | hz
            · have := HS.out.nums z hz; omega
            · rw [List.mem_singleton.1 hz]; omega, HO1.out, HO22.out, HS.out.ge1, HS.out.ge2⟩
        clear hbr hN5 hM15 hM25
        go_wp2_with fail
        go_roundw
        case rel => exact ⟨k + 1, _, _, F', _, _, by omega, by go_num, HS5.out⟩
        case measure => simp [RowKit.intOf]; omega
    · have hMB := HS.out.map1
      go_wp2_with fail
      refine (all_any HS.out.notes hLn).mono ?_
      rintro e w5 ⟨v5, rfl, ho5, hb5⟩
      have hM5 := MapAt.kept hMB (hb5.block _ hMB.lt)
      have hB5 := HS.out.below.trans (hb5.mono HS.out.below.size)
      have HM5 := Lib.hid hM5
      have hvl : ∃ a cap, v5 = .slice a L.length cap ∧ (0 < L.length → ∃ g, a = some ⟨g, 0, none⟩ ∧ ∀ j (h : j < L.length), w5.cell? ⟨g, j, none⟩ = some (.string L[j])) := by
        by_cases h0 : 0 < L.length
        · obtain ⟨g, cap, rfl, -⟩ := row_some ho5 (by rw [List.length_map]; exact h0)
          exact ⟨_, _, rfl, fun _ => ⟨g, rfl, fun j hj => by rw [ho5.cellAt j (by omega), List.getElem?_map, List.getElem?_eq_getElem hj]; rfl⟩⟩
        · rcases ho5.2 with ⟨rfl, hn⟩ | ⟨g, cap, cur, rfl, -⟩
          · exact ⟨none, 0, by rw [hn], fun h => absurd h h0⟩
          · exact ⟨_, _, rfl, fun h => absurd h h0⟩
      obtain ⟨a5, cap5, rfl, hcell5⟩ := hvl
      have HC5 := Lib.hid hcell5
      have HSZ1 := Lib.hid HS.out.first.1
      clear hM5 ho5 hb5 hMB hcell5
      go_wp2_with fail
      go_loop [84] (fun vj => ∃ j : Nat, j ≤ L.length ∧ vj = .int .i64 j) (fun vj => L.length - (RowKit.intOf vj).toNat)
      case atStart => exact ⟨0, Nat.zero_le _, rfl⟩
      case round =>
        obtain ⟨j, hj, rfl⟩ := hrel
        by_cases hjl : j < L.length
        · obtain ⟨g, ha5, hcs⟩ := HC5.out (by omega)
          subst ha5
          have hcj := hcs j hjl
          clear hcs
          have hyn := HS.out.names L[j] (List.getElem_mem _)
          have hky := keyOf_str L[j] hyn
          have HAT := Lib.hid (show D1.atKey (.string L[j].data.toList) (.lit (.int .i64 0)) = .lit (.int .i64 ((j : Int) + 1)) by rw [(HS.out.first.2 _).2, idx_nodup HS.out.nodup hjl])
          generalize L[j] = y at *
          go_wp2_with (at_lookup; refine wpList_lookup_own_int _ rfl (.tmp 89) (.tmp 90) 53 rfl 9 3 .i64 skey Tryd.underlying53 Tryd.underlying3 (zeroInt _) (w1.heap.size + 1) k D1 rfl HM5.out (.string y) (.string y.data.toList) rfl hky ?_; intro c8 hat8 hwc8; obtain rfl : (j : Int) + 1 = c8 := (by have h7 := HAT.out.symm.trans hat8; simpa using h7); clear hat8 hwc8)
          go_round
          case rel => exact ⟨j + 1, by omega, by go_num⟩
          case measure => simp [RowKit.intOf]; omega
        · have hje : j = L.length := by omega
          have hsize : size D1 = L.length := HSZ1.out
          go_wp2_with (at_len; refine wpList_len_own _ rfl (.tmp 98) 53 rfl 9 3 Tryd.underlying53 (plainElem Tryd.prog 3) (w1.heap.size + 1) k D1 rfl HM5.out ?_)
          go_ret
          exact ⟨ret_bool (by first | rfl | simp), hB5⟩
end Go.Proofs.YtkplnimjliabnaaDoor
