/- NumberParts: the walk. -/
import Derived.Test.YtbblgnbafecdmaaDoorPartsSt
import Derived.Test.YtbblgnbafecdmaaDoorNAlive
import Derived.Test.YtbblgnbafecdmaaDoorRow
namespace Go.Proofs.YtbblgnbafecdmaaDoor
open Go.RowKit Go.Lib Go.Maps

set_option maxRecDepth 100000 in
set_option maxHeartbeats 8000000 in
theorem parts_main {W : World} (hT : Tabs W) (v : Value) (l : List Int) (hv : IntsIn W v l) (hl : l.length ≤ 60) :
    Calls Tryd.prog 4 #[v] W fun e w' => e = .returned (.bool true) ∧ Below W.heap.size W w' := by
  obtain ⟨a, cap, rfl⟩ := hv.form
  have HV := Lib.hid hv
  have HT := Lib.hid hT
  have HLOW := Lib.hid hT.low
  clear hv hT
  have g1 : decide ((60 : Int) < l.length) = false := by simp only [decide_eq_false_iff_not]; omega
  have hli : (l.length : Int) ≤ 60 := by omega
  have hmm := @run_makeMap Tryd.prog
  go_enter Tryd.func4, Tryd.ntmps4
  go_wp2_with fail
  refine (alive_any HT.out).mono ?_
  rintro e w1 ⟨rfl, hb1⟩
  have hs1 := hb1.size
  have HB1 := Lib.hid hb1
  have HB2 := Lib.hid (hb1.alloc hs1 (.cells #[.int .i64 0, .int .i64 0, .int .i64 0, .int .i64 0, .int .i64 0, .int .i64 0, .int .i64 0] 28))
  have HC2 : Hid (Cnt7 w1.heap.size zeroC (w1.alloc (.cells #[.int .i64 0, .int .i64 0, .int .i64 0, .int .i64 0, .int .i64 0, .int .i64 0, .int .i64 0] 28))) := heap_alloc_new w1 _
  clear hb1
  go_wp2_with fail
  refine (all_any (HT.out.under HLOW.out HB2.out) _ l ((HV.out.below HB1.out).below ((Below.refl _ _).alloc (Nat.le_refl _) _)) (by omega)).mono ?_
  rintro e w2 ⟨vl, rfl, hrow, hb2⟩
  have hrow' := row_base hrow (b' := W.heap.size) (by simp; omega)
  obtain ⟨a2, cap2, rfl⟩ : ∃ a2 cap2, vl = .slice a2 l.length cap2 := by
    rcases hrow.2 with ⟨rfl, h0⟩ | ⟨g, c, cur, rfl, _⟩
    · rw [h0]; exact ⟨_, _, rfl⟩
    · exact ⟨_, _, rfl⟩
  have hz2 : w1.heap.size < w2.heap.size := by have := hb2.size; simp at this; omega
  have HP0 : Hid (PartsSt W w1.heap.size w2.heap.size zeroC 0 l (.slice a2 l.length cap2) (w2.alloc (.map #[] 0))) :=
    ⟨(HC2.out.kept (hb2.block _ HC2.out.lt)).kept (Below.heap_alloc _ _ _ hz2), ⟨0, .map [], Nat.le_refl _, World.ownsMap_made _ _ _ _⟩, hrow'.alloc _, (HB2.out.trans (hb2.mono HB2.out.size)).alloc (by have := HB2.out.size; omega) _, hs1, by omega⟩
  clear hrow hrow' hb2
  go_wp2_with fail
  go_loopw [31] (fun i wr => ∃ k : Nat, k ≤ l.length ∧ i = .int .i64 k ∧ PartsSt W w1.heap.size w2.heap.size (stC (l.take k)) k l (.slice a2 l.length cap2) wr) (fun i _ => l.length - (RowKit.intOf i).toNat)
  case atStart => exact ⟨0, Nat.zero_le _, rfl, HP0.out⟩
  case round =>
    obtain ⟨k, hk, rfl, hS⟩ := hrel
    by_cases hlt : k < l.length
    · obtain ⟨b, o, rfl, hb, hcell⟩ := HV.out.cells rfl (by omega)
      have cx := (hS.below.cell (p := ⟨b, o + k, none⟩) hb).trans (hcell k hlt)
      have hnx := Lib.hid (take_next hlt)
      obtain ⟨X, hX1, hX2⟩ := text_at hlt
      have hXs : X.size ≤ 132 := by
        rw [ba_size, hX2]
        refine numK_len (stC_len _) (fun x hx => ?_)
        have := stC_le _ x hx
        rw [List.length_take] at this; omega
      obtain ⟨g2, c2, hga⟩ : ∃ g c, Value.slice a2 l.length cap2 = .slice (some ⟨g, 0, none⟩) l.length c := by
        obtain ⟨g, c, h, -⟩ := row_some hS.row (by rw [List.length_map]; unfold texts; rw [List.length_map, allN_len]; omega)
        exact ⟨g, c, h⟩
      simp only [Value.slice.injEq, true_and] at hga
      obtain ⟨rfl, rfl⟩ := hga
      have hrowc := fun (w : World) (h : PartsSt W w1.heap.size w2.heap.size (stC (l.take k)) k l (.slice (some ⟨g2, 0, none⟩) l.length cap2) w) => h.row
      clear hcell hrowc
      have hkl : (l.take k).length = k := by rw [List.length_take]; omega
      have hXc := fun {w : World} {c : List Nat} {n : Nat} (h : PartsSt W w1.heap.size w2.heap.size c n l (.slice (some ⟨g2, 0, none⟩) l.length cap2) w) => (h.row.cellAt k (by omega)).trans hX1
      generalize l[k] = x at cx hnx hX2
      generalize l.take k = L at hS hkl hnx hX2
      have HXC := Lib.hid (fun (w : World) (c : List Nat) (n : Nat) => hXc (w := w) (c := c) (n := n))
      have HX2 := Lib.hid hX2
      have hLi : L.length ≤ 60 := by omega
      have HLk := Lib.hid hkl
      clear hX1 hX2 hkl hXc
      have hk0 : (0 : Int) ≤ (k : Int) := by omega
      have hk1 : (k : Int) < l.length := by omega
      cases hok : okLev x with
      | false =>
        have hcase : decide (x < 1) = true ∨ (decide (x < 1) = false ∧ decide (6 < x) = true) := by
          unfold okLev at hok
          simp only [Bool.and_eq_false_iff, decide_eq_false_iff_not, decide_eq_true_eq] at hok ⊢
          omega
        have HN := Lib.hid (show PartsSt W w1.heap.size w2.heap.size (stC (L ++ [x])) (k + 1) l (.slice (some ⟨g2, 0, none⟩) l.length cap2) wr by
          rw [stC_snoc, nextC_bad hok]; exact hS.more (by omega))
        clear hS hok
        rcases hcase with t1 | ⟨t1, t2⟩
        all_goals go_wp2_with fail
        all_goals go_roundw
        case rel => exact ⟨k + 1, by omega, by go_num, by rw [hnx.out]; exact HN.out⟩
        case measure => simp only [RowKit.intOf]; omega
        case rel => exact ⟨k + 1, by omega, by go_num, by rw [hnx.out]; exact HN.out⟩
        case measure => simp only [RowKit.intOf]; omega
      | true =>
        obtain ⟨j, hj, rfl⟩ : ∃ j : Nat, j < 6 ∧ x = (j : Int) + 1 := by
          have := okLev_iff.1 hok
          exact ⟨(x - 1).toNat, by omega, by omega⟩
        have t1 : decide ((j : Int) + 1 < 1) = false := by simp only [decide_eq_false_iff_not]; omega
        have t2 : decide (6 < (j : Int) + 1) = false := by simp only [decide_eq_false_iff_not]; omega
        have hc6 := stC_len L
        obtain ⟨n0, hn0, hn0le⟩ : ∃ n0 : Nat, (stC L)[j]? = some n0 ∧ n0 ≤ 1000 := by
          have hc6 : j < (stC L).length := by rw [stC_len]; exact hj
          exact ⟨_, List.getElem?_eq_getElem hc6, by have := stC_le L _ (List.getElem_mem hc6); omega⟩
        have hn0' : (stC L)[j]'(by rw [hc6]; exact hj) = n0 := (List.getElem?_eq_some_iff.1 hn0).2
        obtain ⟨c1, f1⟩ := hS.cnt.cell j (by rw [hc6]; exact hj)
        rw [hn0'] at c1
        have hS1 := hS.set j (n0 + 1)
        rw [show (((n0 + 1 : Nat)) : Int) = (n0 : Int) + 1 by omega] at hS1
        have hB6 : (bump (stC L) (j + 1)).length = 6 := bump_len hc6 (by omega) (by omega)
        have hc16 : ((stC L).set j (n0 + 1)).length = 6 := by rw [List.length_set]; exact hc6
        have hget := fun i (hi : i < 6) => bump_get hc6 hj hi hn0
        have hnext : stC (L ++ [(j : Int) + 1]) = bump (stC L) (j + 1) := by
          rw [stC_snoc]; unfold nextC; rw [if_pos hok, show ((j : Int) + 1).toNat = j + 1 by omega]
        have hdots : dotsT (toks X.data.toList) + 1 = partsL (bump (stC L) (j + 1)) := by
          rw [toks_ascii _ (by rw [HX2.out]; exact numK_bytes _ _), HX2.out, ← hnext, stC_snoc]
          exact numK_dots hc6 hok
        have hBle : ∀ x ∈ (stC L).set j (n0 + 1), x ≤ 1001 := fun y hy => by
          rcases List.mem_or_eq_of_mem_set hy with h | h
          · have := stC_le L _ h; omega
          · omega
        generalize bump (stC L) (j + 1) = B at hB6 hget hnext hdots
        generalize (stC L).set j (n0 + 1) = c' at hS1 hc16 hget hBle
        have HS1 := Lib.hid hS1
        have HGET := Lib.hid hget
        have HNEXT := Lib.hid hnext
        have HDOTS := Lib.hid hdots
        have HBLE := Lib.hid hBle
        have HB6 := Lib.hid hB6
        have HC16 := Lib.hid hc16
        have hj0 : (0 : Int) ≤ (j : Int) := by omega
        have hj7 : (j : Int) + 1 < 7 := by omega
        have hn0i : (n0 : Int) ≤ 1000 := by omega
        clear hS hS1 hget hnext hdots hBle hB6 hc16 hn0 hn0' hok hc6
        go_wp2_with fail
        go_loopw [8, 9] (fun p jv wi => ∃ i : Nat, i ≤ 6 ∧ jv = .int .i64 ((i : Int) + 1) ∧ p = .int .i64 (partsL (B.take i) : Nat) ∧ PartsSt W w1.heap.size w2.heap.size (midC B c' i) k l (.slice (some ⟨g2, 0, none⟩) l.length cap2) wi) (fun _ jv _ => 7 - (RowKit.intOf jv).toNat)
        case atStart => exact ⟨0, by omega, rfl, rfl, by rw [midC_zero]; exact HS1.out⟩
        case round =>
          obtain ⟨i, hi, rfl, rfl, hSi⟩ := hrel
          by_cases hi6 : i < 6
          · have hg := HGET.out i hi6
            have hBi : i < B.length := by rw [HB6.out]; exact hi6
            have hci : i < c'.length := by rw [HC16.out]; exact hi6
            obtain ⟨c2, f2⟩ := hSi.cnt.cell i (by rw [midC_len HB6.out HC16.out (by omega)]; exact hi6)
            have hmg := midC_get HB6.out HC16.out hi6
            rw [List.getElem?_eq_getElem (by rw [midC_len HB6.out HC16.out (by omega)]; exact hi6), List.getElem?_eq_getElem hci] at hmg
            have hmg2 := Option.some.inj hmg
            rw [hmg2] at c2
            rw [List.getElem?_eq_getElem hBi, List.getElem?_eq_getElem hci] at hg
            have hpt := parts_take hBi
            have hpl : partsL (B.take i) ≤ 6 := by have := parts_len (B.take i); rw [List.length_take] at this; omega
            have hms := midC_set HB6.out HC16.out hi6
            have hmsame := midC_same HB6.out HC16.out hi6
            have hle1 := HBLE.out _ (List.getElem_mem hci)
            generalize c'[i] = n1 at *
            have t3 : decide ((i : Int) + 1 ≤ 6) = true := by simp only [decide_eq_true_eq]; omega
            have hi0 : (0 : Int) ≤ (i : Int) := by omega
            have hi7 : (i : Int) + 1 < 7 := by omega
            have hi8 : (i : Int) < 6 := by omega
            have hn1i : (n1 : Int) ≤ 1001 := by omega
            by_cases hji : j < i
            · rw [if_pos hji] at hg
              have hg2 := Option.some.inj hg
              rw [hg2] at hpt hms
              have HPT := Lib.hid hpt
              have hSn := hSi.set i 0
              rw [hms] at hSn
              have HSN := Lib.hid hSn
              have t4 : decide ((j : Int) + 1 < (i : Int) + 1) = true := by simp only [decide_eq_true_eq]; omega
              have t5 : decide (j < i) = true := by simp only [decide_eq_true_eq]; omega
              clear hg hg2 hpt hms hmsame hmg hmg2 hSi hSn
              go_wp2_with fail
              go_roundw
              case rel => exact ⟨i + 1, by omega, by go_num, by rw [HPT.out]; rfl, HSN.out⟩
              case measure => simp only [RowKit.intOf]; omega
            · rw [if_neg hji] at hg
              have hg2 := Option.some.inj hg
              have HMS := Lib.hid (hmsame hg2)
              rw [hg2] at hpt
              have HPT := Lib.hid hpt
              have HSI := Lib.hid hSi
              have t4 : decide ((j : Int) + 1 < (i : Int) + 1) = false := by simp only [decide_eq_false_iff_not]; omega
              have t5 : decide (j < i) = false := by simp only [decide_eq_false_iff_not]; omega
              clear hg hg2 hpt hms hmsame hmg hmg2 hSi
              by_cases hp1 : 0 < n1
              · have t6 : decide (0 < n1) = true := by simp only [decide_eq_true_eq]; omega
                go_wp2_with fail
                go_roundw
                case rel => exact ⟨i + 1, by omega, by go_num, by rw [HPT.out, if_pos hp1]; go_num, by rw [HMS.out]; exact HSI.out⟩
                case measure => simp only [RowKit.intOf]; omega
              · have t6 : decide (0 < n1) = false := by simp only [decide_eq_false_iff_not]; omega
                go_wp2_with fail
                go_roundw
                case rel => exact ⟨i + 1, by omega, by go_num, by rw [HPT.out, if_neg hp1]; go_num, by rw [HMS.out]; exact HSI.out⟩
                case measure => simp only [RowKit.intOf]; omega
          · obtain rfl : i = 6 := by omega
            have hcX := HXC.out _ _ _ hSi
            rw [midC_six HB6.out HC16.out] at hSi
            have hP6 : B.take 6 = B := List.take_of_length_le (by rw [HB6.out]; omega)
            rw [hP6]
            obtain ⟨P, hP⟩ : ∃ P, partsL B = P := ⟨_, rfl⟩
            have hPl : P ≤ 6 := by rw [← hP, ← HB6.out]; exact parts_len B
            have HD := Lib.hid (show dotsT (toks X.data.toList) + 1 = P by rw [← hP]; exact HDOTS.out)
            rw [hP]
            have hP1 : 1 ≤ P := by have := HD.out; omega
            have HSI := Lib.hid hSi
            clear hP6 hP hSi
            have e1 : (P : Int) ≤ 6 := by omega
            have e2 : (1 : Int) ≤ (P : Int) := by omega
            obtain ⟨w6, rfl⟩ : ∃ w6 : World, w6 = wr := ⟨_, rfl⟩
            go_wp2_with fail
            go_loopw [10] (fun d wi => ∃ (pos q : Nat), wi.heap[w6.heap.size]? = some (.stringIter X pos) ∧ Below w6.heap.size w6 wi ∧ d = .int .i64 q ∧ Hid (q + dotsT (toks (X.data.toList.drop pos)) = dotsT (toks X.data.toList)) ∧ pos ≤ X.size ∧ q ≤ pos) (fun _ wi => X.size - wi.iterPos w6.heap.size)
            case atStart => exact ⟨0, 0, by have := World.iter_heap w6 X 0; simpa using this, (Below.refl _ _).alloc (Nat.le_refl _) _, rfl, Lib.hid (by rw [List.drop_zero, Nat.zero_add]), Nat.zero_le _, Nat.le_refl _⟩
            case round =>
              obtain ⟨pos, q, hit, hBi, rfl, hQ, hps, hqp⟩ := hrel
              by_cases hp : pos < X.size
              · obtain ⟨r, n, hn1, hpn, hrl, hnx, HI, hbw2, hsz2, HP1, HP2, HD2, HNE, HG, HT2, HTK⟩ := iter_step hit hp hBi (Nat.le_refl _)
                have HQ2 := Lib.hid (show q + ((if r = 46 then 1 else 0) + dotsT (toks (X.data.toList.drop (pos + n)))) = dotsT (toks X.data.toList) by
                  rw [← hQ.out, HT2.out, dotsT_cons])
                have hq1 : (q : Int) ≤ 200 := by omega
                by_cases hr : r = 46
                · subst hr
                  go_wp2_with fail
                  go_roundw
                  case rel => exact ⟨pos + n, q + 1, HI.out, hbw2, by go_num, Lib.hid (by have := HQ2.out; rw [if_pos rfl] at this; omega), hpn, by omega⟩
                  case measure => rw [HP1.out, HP2.out]; omega
                · have b1 : ((r : Int) == 46) = false := by rw [beq_eq_false_iff_ne]; omega
                  have HR := Lib.hid hr
                  clear hr
                  go_wp2_with fail
                  go_roundw
                  case rel => exact ⟨pos + n, q, HI.out, hbw2, rfl, Lib.hid (by have := HQ2.out; rw [if_neg HR.out] at this; omega), hpn, by omega⟩
                  case measure => rw [HP1.out, HP2.out]; omega
              · have hit2 := iter_end hit hp
                have hpe : pos = X.size := by omega
                have hQD : q + 1 = P := by
                  have h1 := hQ.out
                  rw [List.drop_eq_nil_of_le (by rw [← ba_size]; omega)] at h1
                  have h2 := HD.out
                  have h3 : dotsT (toks ([] : List UInt8)) = 0 := rfl
                  omega
                have hS7 := HSI.out.on hBi
                have hcX7 := HXC.out _ _ _ hS7
                obtain ⟨n2, D2, hn2, hown2⟩ := hS7.map
                have HS7 := Lib.hid hS7
                have HO2 := Lib.hid hown2
                have b1 : ((q : Int) == (P : Int) - 1) = true := by rw [beq_iff_eq]; omega
                have b2 : ((q : Int) != (P : Int) - 1) = false := by rw [bne, b1]; rfl
                have hkey := keyOf_str X (by omega)
                have hnl : n2 < maxLen := by unfold maxLen; omega
                have HQD := Lib.hid hQD
                have HPE := Lib.hid hpe
                clear hS7 hown2 hQD hpe hQ hit hcX
                go_wp2_with (first | (at_mapUpdate; refine wpList_mapUpdate_own _ rfl (.tmp 78) (.tmp 82) (.const (.bool true)) 29 rfl 9 4 skey Tryd.underlying29 (plainElem Tryd.prog 4) w2.heap.size n2 D2 rfl HO2.out hnl (.string X) (.bool true) (.string X.data.toList) rfl rfl hkey (.lit (.bool true)) [] (plainElem_bool Tryd.underlying4 true) ?_; intro w8 hown3 hgr3; have HS8 := Lib.hid (HS7.out.put (by omega : n2 + 1 ≤ k + 1) hown3 hgr3); clear hown3 hgr3))
                go_roundw
                case rel => exact ⟨k + 1, by omega, by go_num, by rw [hnx.out, HNEXT.out]; exact HS8.out⟩
                case measure => simp only [RowKit.intOf]; omega
    · obtain rfl : k = l.length := by omega
      obtain ⟨n2, D2, hn2, hown2⟩ := hS.map
      have hz := map_size_le hown2
      have HO2 := Lib.hid hown2
      have HB9 := Lib.hid hS.below
      clear hS hown2
      go_wp2_with (at_len; refine wpList_len_own _ rfl (.tmp 84) 29 rfl 9 4 Tryd.underlying29 _ w2.heap.size n2 D2 rfl HO2.out ?_)
      have b1 : decide (size D2 ≤ l.length) = true := by simp only [decide_eq_true_eq]; omega
      generalize size D2 = z at *
      go_ret
      exact ⟨congrArg (fun b => Ending.returned (.bool b)) b1, HB9.out⟩

set_option maxRecDepth 100000 in
set_option maxHeartbeats 1000000 in
theorem numberParts_walk (v : Value) (W : World) (hT : Tabs W) (h : ∃ l : List Int, RowIn W W.heap.size v (l.map (.int .i64)) ∧ ∀ z ∈ l, (Lit.int .i64 z).wf = true) :
    Calls Tryd.prog 4 #[v] W fun e w' => e = .returned (.bool true) ∧ Below W.heap.size W w' := by
  obtain ⟨l, ⟨a, cap, rfl, hlc, hcm, hr⟩, -⟩ := h
  simp only [List.length_map] at *
  by_cases hl : l.length ≤ 60
  · refine parts_main hT _ l ?_ hl
    rcases hr with hr | ⟨b, o, ha, hb, hc⟩
    · have hr' : l = [] := by simpa using hr
      subst hr'
      exact .inl ⟨rfl, _, _, rfl⟩
    · subst ha
      exact .inr ⟨b, o, cap, rfl, hb, fun i h => by
        have h9 := hc i h
        rw [List.getElem_map] at h9
        exact h9⟩
  · have t1 : decide ((60 : Int) < l.length) = true := by simp only [decide_eq_true_eq]; omega
    have ha := fun w => @alive_any w
    have HT := Lib.hid hT
    clear hr hT hl
    go_enter Tryd.func4, Tryd.ntmps4
    go_wp2_with fail
    refine (ha _ HT.out).mono ?_
    rintro e w1 ⟨rfl, hb1⟩
    go_wp2_with fail
    go_ret
    exact ⟨rfl, hb1⟩
end Go.Proofs.YtbblgnbafecdmaaDoor
