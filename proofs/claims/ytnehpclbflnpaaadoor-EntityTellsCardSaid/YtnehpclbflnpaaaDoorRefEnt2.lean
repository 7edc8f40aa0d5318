/- bowdlerref1.Entity: the walk. -/
import Derived.Test.YtnehpclbflnpaaaDoorRefEnt
namespace Go.Proofs.YtnehpclbflnpaaaDoor
open Go.RowKit Go.Lib

theorem ba_app (a b : ByteArray) : (a ++ b).data.toList = a.data.toList ++ b.data.toList := by simp
theorem names_len : ∀ n ∈ namesL, n.length ≤ 6 := fun n hn => (names_form n hn).2.2.1
theorem namesL_len : namesL.length = 23 := rfl
theorem getD_mem {k : Nat} (hk : k < 23) : namesL.getD k [] ∈ namesL := by
  rw [List.getD_eq_getElem?_getD, List.getElem?_eq_getElem (by rw [namesL_len]; exact hk)]
  exact List.getElem_mem _
theorem nodup_idx : ∀ k : Fin 23, namesL.idxOf (namesL.getD k.val []) = k.val := by decide +kernel
theorem named_at {k : Nat} (hk : k < 23) : namedR (namesL.getD k []) = (encodeRune (runesL.getD k 0), true) := by
  rw [named_yes (getD_mem hk), nodup_idx ⟨k, hk⟩]
/-- the test of a round, in bytes -/
theorem hit_bytes {s X : ByteArray} {n : List UInt8} (hX : X.data.toList = n) (_hlen : n.length + 2 ≤ s.size) :
    ((s.extract 0 (n.length + 2)).toList == ((⟨#[38]⟩ : ByteArray) ++ X ++ (⟨#[59]⟩ : ByteArray)).toList) = hitB s.data.toList n := by
  rw [Bool.eq_iff_iff, hit_iff, beq_iff_eq, Lib.toList_data, Lib.toList_data, ba_app, ba_app, hX]
  have e : (s.extract 0 (n.length + 2)).data.toList = s.data.toList.take (n.length + 2) := by
    simp [List.extract_eq_take_drop]
  rw [e]
  constructor
  · intro h
    refine ⟨s.data.toList.drop (n.length + 2), ?_⟩
    have := List.take_append_drop (n.length + 2) s.data.toList
    rw [h] at this
    rw [← this]; simp
  · rintro ⟨r, hr⟩
    rw [hr]
    simp [List.take_append, List.take_of_length_le]
theorem hit_len {l n : List UInt8} (h : hitB l n = true) : n.length + 2 ≤ l.length := by
  obtain ⟨r, rfl⟩ := hit_iff.1 h
  simp

theorem ba_eq {a b : ByteArray} (h : a.data.toList = b.data.toList) : a = b := by
  cases a; cases b; simp at h; rw [h]
theorem ret_si {a b : ByteArray} {x y : Int} (h : a = b) (h2 : x = y) : Ending.returned (.tuple #[.string a, .int .i64 x]) = .returned (.tuple #[.string b, .int .i64 y]) := by rw [h, h2]
theorem take_ext {l : List UInt8} {k : Nat} {c : UInt8} (h : l[k]? = some c) : l.take (k + 1) = l.take k ++ [c] := by
  obtain ⟨hk, rfl⟩ := List.getElem?_eq_some_iff.1 h
  exact List.take_succ_eq_append_getElem hk
theorem digR_yes {c : UInt8} {hex : Bool} (h : isDig (if hex then 16 else 10) c = true) : digR c hex = hexVal c := by unfold digR; rw [if_pos h]
theorem digR_no {c : UInt8} {hex : Bool} (h : isDig (if hex then 16 else 10) c = false) : digR c hex = -1 := by unfold digR; rw [if_neg (by rw [h]; simp)]
theorem dig_ne {base : Int} {c : UInt8} (h : isDig base c = true) : ((c.toNat : Int) != 59) = true := by
  rw [bne_iff_ne]
  intro e
  have : c = 59 := UInt8.toNat_inj.1 (by have : c.toNat = 59 := by omega
                                         simpa using this)
  rw [this, dig_59] at h
  cases h
theorem numRef_no {base : Int} {most ahead : Nat} {l : List UInt8} (h : refK base most (l.drop ahead) = 0 ∨ (l.drop ahead)[refK base most (l.drop ahead)]? ≠ some 59) : numRef base most ahead l = ([], 0) := by unfold numRef; rw [if_pos h]
theorem numRef_yes {base : Int} {most ahead k : Nat} {l : List UInt8} (h : refK base most (l.drop ahead) = k) (h0 : ¬ k = 0) (h59 : (l.drop ahead)[k]? = some 59) : numRef base most ahead l = (runeText (valB base ((l.drop ahead).take k)), ahead + k + 1) := by
  unfold numRef
  rw [h, if_neg]
  rintro (h | h)
  · exact h0 h
  · exact h h59
theorem refK_ge {base : Int} {most k : Nat} {d : List UInt8} (hk : k ≤ most) (hd : ∀ b ∈ d.take k, isDig base b = true) (hl : k ≤ d.length) : k ≤ refK base most d := by
  have := (digN_at hd hl).2
  unfold refK
  omega
theorem refK_full {base : Int} {most : Nat} {d : List UInt8} {c : UInt8} (hd : ∀ b ∈ d.take most, isDig base b = true) (hc : d[most]? = some c) (_hdg : isDig base c = true) : refK base most d = most := by
  have hl := (List.getElem?_eq_some_iff.1 hc).1
  have := refK_ge (Nat.le_refl most) hd (Nat.le_of_lt hl)
  unfold refK at *
  omega
theorem refK_stop {base : Int} {most k : Nat} {d : List UInt8} {c : UInt8} (hk : k ≤ most) (hd : ∀ b ∈ d.take k, isDig base b = true) (hc : d[k]? = some c) (hdg : isDig base c = false) : refK base most d = k := by
  obtain ⟨hl, e⟩ := List.getElem?_eq_some_iff.1 hc
  obtain ⟨h1, h2⟩ := digN_at hd (Nat.le_of_lt hl)
  have h3 : ¬ k < digN base d := by
    rw [h1]
    rintro ⟨_, h⟩
    rw [e, hdg] at h
    cases h
  unfold refK
  omega
theorem rune_ok (v : Int) (h0 : 0 ≤ v) (h : v ≠ 0) (h1 : v < 55296 ∨ 57343 < v) (h2 : v ≤ 1114111) : Utf8.encode v = ⟨(runeText v, (0 : Nat)).1.toArray⟩ := by
  refine ba_eq ?_
  rw [utf8_enc]
  show _ = runeText v
  unfold runeText
  rw [if_neg]
  rintro (h' | h')
  · exact h h'
  · unfold Utf8.valid at h'
    simp at h'
    omega
theorem rune_bad (v : Int) (_h0 : 0 ≤ v) (h : v = 0 ∨ (55296 ≤ v ∧ v ≤ 57343) ∨ 1114111 < v) : Utf8.encode 65533 = ⟨(runeText v, (0 : Nat)).1.toArray⟩ := by
  refine ba_eq ?_
  rw [utf8_enc]
  show _ = runeText v
  unfold runeText
  rw [if_pos]
  · decide +kernel
  · rcases h with h | h | h
    · exact .inl h
    · right; unfold Utf8.valid; simp; omega
    · right; unfold Utf8.valid; simp; omega
theorem u8_is {c : UInt8} {n : Nat} (h : c.toNat = n) (hn : n < 256) : c = UInt8.ofNat n := UInt8.toNat_inj.1 (by simp; omega)
theorem pre2_bytes {s : ByteArray} : ((s.extract 0 2).toList == [38, 35]) = Lib.hasPrefix s.data.toList [38, 35] := by
  rw [Bool.eq_iff_iff, beq_iff_eq, Lib.toList_data]
  have e : (s.extract 0 2).data.toList = s.data.toList.take 2 := by simp [List.extract_eq_take_drop]
  have e2 : (Lib.hasPrefix s.data.toList [38, 35] = true) ↔ [38, 35] <+: s.data.toList := by simp [Lib.hasPrefix]
  rw [e, e2, List.prefix_iff_eq_take]
  exact ⟨fun h => h.symm, fun h => h.symm⟩

set_option maxRecDepth 100000 in
set_option maxHeartbeats 4000000 in
theorem refEnt_any {w : World} (s : ByteArray) (hs : s.size ≤ 100) :
    Calls Tryd.prog 10 #[.string s] w fun e w' => e = .returned (.tuple #[.string ⟨(atR s.data.toList).1.toArray⟩, .int .i64 (atR s.data.toList).2]) ∧ Below w.heap.size w w' := by
  have hsz := Lib.hid (ba_size s)
  have hsi : (s.size : Int) ≤ 100 := by omega
  have hs0 : (0 : Int) ≤ (s.size : Int) := by omega
  go_enter Tryd.func10, Tryd.ntmps10
  go_wp2_with fail
  refine refNames_any.mono ?_
  rintro e w1 ⟨g1, g2, rfl, hN, hR, hb1, hg1⟩
  have HN := Lib.hid hN
  have HR := Lib.hid hR
  have hl1 : g1 < w1.heap.size := (Array.getElem?_eq_some_iff.1 hN).1
  have hl2 : g2 < w1.heap.size := (Array.getElem?_eq_some_iff.1 hR).1
  have HB1 := Lib.hid hb1
  clear hN hR hb1
  go_wp2_with fail
  go_loopw [6] (fun i wr => ∃ k : Nat, k ≤ 23 ∧ i = .int .i64 k ∧ Hid (∀ j, j < k → hitB s.data.toList (namesL.getD j []) = false) ∧ Hid (Below w1.heap.size w1 wr)) (fun i _ => 23 - (RowKit.intOf i).toNat)
  case atStart => exact ⟨0, Nat.zero_le _, rfl, Lib.hid (fun j hj => by omega), Lib.hid (Below.refl _ _)⟩
  case round =>
    obtain ⟨k, hk, rfl, hno, hB⟩ := hrel
    by_cases hlt : k < 23
    · have cn : wr.cell? ⟨g1, k, none⟩ = some (.string ⟨(namesL.getD k []).toArray⟩) := (hB.out.cell (p := ⟨g1, k, none⟩) hl1).trans (named_cell HN.out hlt)
      have cr : wr.cell? ⟨g2, k, none⟩ = some (.int .i32 (runesL.getD k 0)) := (hB.out.cell (p := ⟨g2, k, none⟩) hl2).trans (runes_cell HR.out hlt)
      have hnm := getD_mem hlt
      have hnl := names_len _ hnm
      have HNM := Lib.hid hnm
      have hna := Lib.hid (named_at hlt)
      have hki : (k : Int) < 23 := by omega
      have hk0 : (0 : Int) ≤ (k : Int) := by omega
      clear hnm
      obtain ⟨X, hX⟩ : ∃ X : ByteArray, (⟨(namesL.getD k []).toArray⟩ : ByteArray) = X := ⟨_, rfl⟩
      rw [hX] at cn
      have HX := Lib.hid (show X.data.toList = namesL.getD k [] by rw [← hX])
      clear hX
      have hXs : X.size = (namesL.getD k []).length := by rw [ba_size, HX.out]
      have hX6 : (X.size : Int) ≤ 6 := by omega
      have hX0 : (0 : Int) ≤ (X.size : Int) := by omega
      by_cases hlen : X.size + 2 ≤ s.size
      · have hb := hit_bytes (s := s) HX.out (by rw [← hXs]; exact hlen)
        rw [← hXs] at hb
        have t1 : decide ((X.size : Int) + 2 ≤ (s.size : Int)) = true := by simp only [decide_eq_true_eq]; omega
        replace hXs := Lib.hid hXs
        generalize hq : hitB s.data.toList (namesL.getD k []) = q at hb
        have HQ := Lib.hid hq
        clear hq
        generalize hg : namesL.getD k [] = n at *
        have HG := Lib.hid hg
        clear hg
        generalize runesL.getD k 0 = r at *
        go_wp2_with fail
        go_quiet (fail)
        go_wp2_with fail
        · have HRES := Lib.hid (hit_at HNM.out (show hitB s.data.toList n = true by rw [HQ.out]; assumption))
          go_ret2
          refine ⟨ret_si ?_ (by rw [HRES.out, ← hXs.out]; rfl), HB1.out.trans ((hB.out.trans ((drew_below wr _).mono hB.out.size)).mono HB1.out.size)⟩
          rw [HRES.out, hna.out]
          exact ba_eq (by rw [utf8_enc])
        · have HF := Lib.hid (show hitB s.data.toList n = false by rw [HQ.out]; assumption)
          exact ⟨⟨k + 1, by omega, by go_num, Lib.hid (fun j hj => by
            rcases Nat.lt_or_ge j k with h | h
            · exact hno.out j h
            · obtain rfl : j = k := by omega
              rw [HG.out]; exact HF.out), Lib.hid (hB.out.trans ((drew_below wr _).mono hB.out.size))⟩, by simp only [RowKit.intOf]; omega⟩
      · have t1 : decide ((X.size : Int) + 2 ≤ (s.size : Int)) = false := by simp only [decide_eq_false_iff_not]; omega
        have hF := Lib.hid (show hitB s.data.toList (namesL.getD k []) = false by
          rw [← Bool.not_eq_true]
          intro h
          have := hit_len h
          rw [← hsz.out] at this
          omega)
        replace hXs := Lib.hid hXs
        generalize runesL.getD k 0 = r at *
        go_wp2_with fail
        go_quiet (fail)
        go_wp2_with fail
        exact ⟨⟨k + 1, by omega, by go_num, Lib.hid (fun j hj => by
          rcases Nat.lt_or_ge j k with h | h
          · exact hno.out j h
          · obtain rfl : j = k := by omega
            exact hF.out), Lib.hid (hB.out.trans ((drew_below wr _).mono hB.out.size))⟩, by simp only [RowKit.intOf]; omega⟩
    · obtain rfl : k = 23 := by omega
      have hnone := Lib.hid (show ∀ n ∈ namesL, hitB s.data.toList n = false by
        intro n hn
        obtain ⟨i, hi, rfl⟩ := List.getElem_of_mem hn
        rw [namesL_len] at hi
        have := hno.out i hi
        rwa [List.getD_eq_getElem?_getD, List.getElem?_eq_getElem (by rw [namesL_len]; exact hi)] at this)
      clear hno
      by_cases h4 : s.size < 4
      · have h4i : (s.size : Int) < 4 := by omega
        have HRES := Lib.hid (show atR s.data.toList = ([], 0) by
          cases hq : Lib.hasPrefix s.data.toList [38, 35] with
          | false => exact nohit_at hnone.out hq
          | true =>
            rw [num_at hq]
            split
            · exact numRef_short (by rw [← hsz.out]; omega)
            · exact numRef_short (by rw [← hsz.out]; omega))
        go_wp2_with fail
        all_goals
          go_ret2
          exact ⟨by rw [HRES.out]; rfl, HB1.out.trans (hB.out.mono HB1.out.size)⟩
      · have h4i : (4 : Int) ≤ (s.size : Int) := by omega
        have hb := pre2_bytes (s := s)
        cases hq : Lib.hasPrefix s.data.toList [38, 35] with
        | false =>
          rw [hq] at hb
          have HRES := Lib.hid (nohit_at hnone.out hq)
          have HQ := Lib.hid hq
          clear hq
          go_wp2_with fail
          all_goals
            go_ret2
            exact ⟨by rw [HRES.out]; rfl, HB1.out.trans (hB.out.mono HB1.out.size)⟩
        | true =>
          rw [hq] at hb
          have hna := num_at hq
          have HQ := Lib.hid hq
          have h2l : s.data.toList[2]? = some s[2] := by rw [List.getElem?_eq_getElem (by rw [← hsz.out]; omega)]; rfl
          rw [h2l] at hna
          replace hna := Lib.hid hna
          clear hq h2l
          have h2i : (2 : Int) < (s.size : Int) := by omega
          have hc9 := s[2].toNat_lt
          generalize hc2 : s[2] = c2 at *
          by_cases h120 : c2 = 120
          · subst h120
            have hnum := Lib.hid (show atR s.data.toList = numRef 16 6 3 s.data.toList by rw [hna.out, if_pos (by simp)])
            go_wp2_with fail
            have hcd := fun (c : UInt8) (w' : World) => digit_any c true w'
            go_loopw [9, 12, 13] (fun vi vv vn wx => ∃ (k p : Nat) (v : Int), k ≤ 6 ∧ p ≤ s.size ∧ Hid (p = 3 + k) ∧ vi = .int .i64 p ∧ vn = .int .i64 k ∧ vv = .int .i64 v ∧ Hid (v = valB 16 ((s.data.toList.drop 3).take k)) ∧ Hid (∀ b ∈ (s.data.toList.drop 3).take k, isDig 16 b = true) ∧ Hid (Below w1.heap.size w1 wx)) (fun _ _ n _ => 6 - (RowKit.intOf n).toNat)
            case atStart => exact ⟨0, 3, 0, by omega, by omega, Lib.hid rfl, rfl, rfl, rfl, Lib.hid (by simp [valB]), Lib.hid (fun b hb => by simp at hb), hB⟩
            case round =>
              obtain ⟨k, p, v, hk, hps, hp, rfl, rfl, rfl, hv, hd, hB2⟩ := hrel
              have hk0 : (0 : Int) ≤ (k : Int) := by omega
              have hp0 : (0 : Int) ≤ (p : Int) := by omega
              have hp9 : (p : Int) ≤ 100 := by omega
              have hki : (k : Int) ≤ 6 := by omega
              have hvb := valB_bd (base := 16) (by decide) _ hd.out
              rw [← hv.out] at hvb
              have hv0 : 0 ≤ v := hvb.1
              have hv1 : v ≤ 16777215 := by
                have h1 : v < 16 ^ ((s.data.toList.drop 3).take k).length := hvb.2
                have h2 : (16 : Int) ^ ((s.data.toList.drop 3).take k).length ≤ 16 ^ 6 := pow_mono (by omega) (by rw [List.length_take]; omega)
                have h3 : (16 : Int) ^ 6 ≤ 16777216 := by decide
                omega
              clear hvb
              by_cases hpl : p < s.size
              · have hpi : (p : Int) < s.size := by omega
                have hat : (s.data.toList.drop 3)[k]? = some s[p] := by
                  rw [List.getElem?_drop, ← hp.out, List.getElem?_eq_getElem (by rw [← hsz.out]; exact hpl)]; rfl
                have htk := take_ext hat
                replace hat := Lib.hid hat
                replace htk := Lib.hid htk
                have hcl := s[p].toNat_lt
                generalize hc : s[p] = c at *
                have hcd2 := hcd c
                cases hdg : isDig 16 c with
                | true =>
                  have hr := digR_yes (hex := true) hdg
                  obtain ⟨-, hx0, hx1⟩ := isDig_lo hdg
                  have HDG := Lib.hid hdg
                  rw [hr] at hcd2
                  replace hr := Lib.hid hr
                  clear hdg
                  have hh0 : 0 ≤ hexVal c := hx0
                  have hh1 : hexVal c < 16 := hx1
                  clear hx0 hx1
                  by_cases hkm : k < 6
                  · have hkmi : (k : Int) < 6 := by omega
                    have HV2 := Lib.hid (show v * 16 + hexVal c = valB 16 ((s.data.toList.drop 3).take (k + 1)) by rw [htk.out, valB_snoc, hv.out])
                    have HD2 := Lib.hid (show ∀ b ∈ (s.data.toList.drop 3).take (k + 1), isDig 16 b = true by
                      rw [htk.out]; intro b hb
                      rcases List.mem_append.1 hb with hb | hb
                      · exact hd.out b hb
                      · rw [List.mem_singleton.1 hb]; exact HDG.out)
                    generalize hexVal c = h at *
                    go_wp2_with (go_at_call 22; refine (hcd2 _).mono ?_; rintro e w2 ⟨rfl, rfl⟩)
                    go_roundw
                    case rel => exact ⟨k + 1, p + 1, _, by omega, by omega, Lib.hid (by rw [hp.out]; omega), by go_num, by go_num, rfl, HV2, HD2, hB2⟩
                    case measure => simp only [RowKit.intOf]; omega
                  · obtain rfl : k = 6 := by omega
                    have h59 := dig_ne HDG.out
                    have HRES := Lib.hid (show atR s.data.toList = ([], 0) by
                      rw [hnum.out]
                      refine numRef_no ?_
                      right
                      rw [refK_full hd.out hat.out HDG.out, hat.out]
                      intro e; cases e; exact absurd HDG.out (by rw [dig_59]; simp))
                    generalize hexVal c = h at *
                    go_wp2_with (go_at_call 22; refine (hcd2 _).mono ?_; rintro e w2 ⟨rfl, rfl⟩)
                    go_ret2
                    exact ⟨by rw [HRES.out]; rfl, HB1.out.trans (hB2.out.mono HB1.out.size)⟩
                | false =>
                  have hr := digR_no (hex := true) hdg
                  rw [hr] at hcd2
                  replace hr := Lib.hid hr
                  have hK := Lib.hid (refK_stop (most := 6) hk hd.out hat.out hdg)
                  have HDG := Lib.hid hdg
                  clear hdg
                  by_cases h0 : k = 0
                  · subst h0
                    have HRES := Lib.hid (show atR s.data.toList = ([], 0) by
                      rw [hnum.out]
                      exact numRef_no (.inl hK.out))
                    go_wp2_with (go_at_call 22; refine (hcd2 _).mono ?_; rintro e w2 ⟨rfl, rfl⟩)
                    go_ret2
                    exact ⟨by rw [HRES.out]; rfl, HB1.out.trans (hB2.out.mono HB1.out.size)⟩
                  · have hk1 : ((k : Int) == 0) = false := by rw [beq_eq_false_iff_ne]; omega
                    by_cases h59 : c = 59
                    · have h59n : ((c.toNat : Int) != 59) = false := by rw [h59]; rfl
                      have HRES := Lib.hid (show atR s.data.toList = (runeText v, 3 + k + 1) by
                        rw [hnum.out, hv.out]
                        exact numRef_yes hK.out h0 (by rw [hat.out, h59]))
                      replace h59 := Lib.hid h59
                      have HP := Lib.hid (show ((p : Int) + 1) = ((3 + k + 1 : Nat) : Int) by rw [hp.out]; omega)
                      have HOK := Lib.hid (rune_ok v hv0)
                      have HBAD := Lib.hid (rune_bad v hv0)
                      by_cases hvz : v = 0
                      · have bv0 : (v == 0) = true := by rw [beq_iff_eq]; exact hvz
                        replace hvz := Lib.hid hvz
                        go_wp2_with (go_at_call 22; refine (hcd2 _).mono ?_; rintro e w2 ⟨rfl, rfl⟩)
                        all_goals
                          go_ret2
                          refine ⟨ret_si ?_ (by first | (rw [HRES.out]; exact HP.out) | (rw [← hnum.out, HRES.out]; exact HP.out)), HB1.out.trans (hB2.out.mono HB1.out.size)⟩
                          first | rw [HRES.out] | rw [← hnum.out, HRES.out]
                          exact HBAD.out (.inl hvz.out)
                      · have bv0 : (v == 0) = false := by rw [beq_eq_false_iff_ne]; exact hvz
                        by_cases hbad : (55296 ≤ v ∧ v ≤ 57343) ∨ 1114111 < v
                        · have HB9 := Lib.hid hbad
                          replace hvz := Lib.hid hvz
                          rcases hbad with ⟨q1, q2⟩ | q1
                          · go_wp2_with (go_at_call 22; refine (hcd2 _).mono ?_; rintro e w2 ⟨rfl, rfl⟩)
                            all_goals
                              go_ret2
                              refine ⟨ret_si ?_ (by first | (rw [HRES.out]; exact HP.out) | (rw [← hnum.out, HRES.out]; exact HP.out)), HB1.out.trans (hB2.out.mono HB1.out.size)⟩
                              first | rw [HRES.out] | rw [← hnum.out, HRES.out]
                              exact HBAD.out (.inr HB9.out)
                          · have q2 : 57343 < v := by omega
                            have q3 : 55296 ≤ v := by omega
                            go_wp2_with (go_at_call 22; refine (hcd2 _).mono ?_; rintro e w2 ⟨rfl, rfl⟩)
                            all_goals
                              go_ret2
                              refine ⟨ret_si ?_ (by first | (rw [HRES.out]; exact HP.out) | (rw [← hnum.out, HRES.out]; exact HP.out)), HB1.out.trans (hB2.out.mono HB1.out.size)⟩
                              first | rw [HRES.out] | rw [← hnum.out, HRES.out]
                              exact HBAD.out (.inr HB9.out)
                        · have q9 : v ≤ 1114111 := by omega
                          have HV9 := Lib.hid hvz
                          replace hvz := Lib.hid hvz
                          rcases (show v < 55296 ∨ 57343 < v by omega) with q1 | q1
                          · replace hbad := Lib.hid hbad
                            go_wp2_with (go_at_call 22; refine (hcd2 _).mono ?_; rintro e w2 ⟨rfl, rfl⟩)
                            all_goals
                              go_ret2
                              refine ⟨ret_si ?_ (by first | (rw [HRES.out]; exact HP.out) | (rw [← hnum.out, HRES.out]; exact HP.out)), HB1.out.trans (hB2.out.mono HB1.out.size)⟩
                              first | rw [HRES.out] | rw [← hnum.out, HRES.out]
                              exact HOK.out HV9.out (.inl q1) q9
                          · replace hbad := Lib.hid hbad
                            go_wp2_with (go_at_call 22; refine (hcd2 _).mono ?_; rintro e w2 ⟨rfl, rfl⟩)
                            all_goals
                              go_ret2
                              refine ⟨ret_si ?_ (by first | (rw [HRES.out]; exact HP.out) | (rw [← hnum.out, HRES.out]; exact HP.out)), HB1.out.trans (hB2.out.mono HB1.out.size)⟩
                              first | rw [HRES.out] | rw [← hnum.out, HRES.out]
                              exact HOK.out HV9.out (.inr q1) q9
                    · have h59i : ((c.toNat : Int) == 59) = false := by rw [beq_eq_false_iff_ne]; exact fun e => h59 (u8_is (n := 59) (by omega) (by omega))
                      have h59n : ((c.toNat : Int) != 59) = true := by rw [bne, h59i]; rfl
                      have HRES := Lib.hid (show atR s.data.toList = ([], 0) by
                        rw [hnum.out]
                        refine numRef_no (.inr ?_)
                        rw [hK.out, hat.out]
                        intro e; exact h59 (Option.some.inj e))
                      go_wp2_with (go_at_call 22; refine (hcd2 _).mono ?_; rintro e w2 ⟨rfl, rfl⟩)
                      go_ret2
                      exact ⟨by rw [HRES.out]; rfl, HB1.out.trans (hB2.out.mono HB1.out.size)⟩
              · obtain rfl : p = s.size := by omega
                have HRES := Lib.hid (show atR s.data.toList = ([], 0) by
                  rw [hnum.out]
                  refine numRef_no ?_
                  by_cases h0 : refK 16 6 (s.data.toList.drop 3) = 0
                  · exact .inl h0
                  · right
                    rw [List.getElem?_eq_none]
                    · simp
                    · rw [List.length_drop, ← hsz.out]
                      have h9 := refK_ge (base := 16) (most := 6) hk hd.out (by rw [List.length_drop, ← hsz.out]; have := hp.out; omega)
                      have := hp.out
                      omega)
                have hpi : ¬ ((s.size : Int) < (s.size : Int)) := by omega
                replace hp := Lib.hid hp
                go_wp2_with (go_at_call 22; refine (hcd _ _).mono ?_; rintro e w2 ⟨rfl, rfl⟩)
                all_goals
                  go_ret2
                  exact ⟨by rw [HRES.out]; rfl, HB1.out.trans (hB2.out.mono HB1.out.size)⟩
          · have b120 : ((c2.toNat : Int) == 120) = false := by rw [beq_eq_false_iff_ne]; exact fun e => h120 (u8_is (n := 120) (by omega) (by omega))
            by_cases h88 : c2 = 88
            · subst h88
              have hnum := Lib.hid (show atR s.data.toList = numRef 16 6 3 s.data.toList by rw [hna.out, if_pos (by simp)])
              go_wp2_with fail
              have hcd := fun (c : UInt8) (w' : World) => digit_any c true w'
              go_loopw [9, 12, 13] (fun vi vv vn wx => ∃ (k p : Nat) (v : Int), k ≤ 6 ∧ p ≤ s.size ∧ Hid (p = 3 + k) ∧ vi = .int .i64 p ∧ vn = .int .i64 k ∧ vv = .int .i64 v ∧ Hid (v = valB 16 ((s.data.toList.drop 3).take k)) ∧ Hid (∀ b ∈ (s.data.toList.drop 3).take k, isDig 16 b = true) ∧ Hid (Below w1.heap.size w1 wx)) (fun _ _ n _ => 6 - (RowKit.intOf n).toNat)
              case atStart => exact ⟨0, 3, 0, by omega, by omega, Lib.hid rfl, rfl, rfl, rfl, Lib.hid (by simp [valB]), Lib.hid (fun b hb => by simp at hb), hB⟩
              case round =>
                obtain ⟨k, p, v, hk, hps, hp, rfl, rfl, rfl, hv, hd, hB2⟩ := hrel
                have hk0 : (0 : Int) ≤ (k : Int) := by omega
                have hp0 : (0 : Int) ≤ (p : Int) := by omega
                have hp9 : (p : Int) ≤ 100 := by omega
                have hki : (k : Int) ≤ 6 := by omega
                have hvb := valB_bd (base := 16) (by decide) _ hd.out
                rw [← hv.out] at hvb
                have hv0 : 0 ≤ v := hvb.1
                have hv1 : v ≤ 16777215 := by
                  have h1 : v < 16 ^ ((s.data.toList.drop 3).take k).length := hvb.2
                  have h2 : (16 : Int) ^ ((s.data.toList.drop 3).take k).length ≤ 16 ^ 6 := pow_mono (by omega) (by rw [List.length_take]; omega)
                  have h3 : (16 : Int) ^ 6 ≤ 16777216 := by decide
                  omega
                clear hvb
                by_cases hpl : p < s.size
                · have hpi : (p : Int) < s.size := by omega
                  have hat : (s.data.toList.drop 3)[k]? = some s[p] := by
                    rw [List.getElem?_drop, ← hp.out, List.getElem?_eq_getElem (by rw [← hsz.out]; exact hpl)]; rfl
                  have htk := take_ext hat
                  replace hat := Lib.hid hat
                  replace htk := Lib.hid htk
                  have hcl := s[p].toNat_lt
                  generalize hc : s[p] = c at *
                  have hcd2 := hcd c
                  cases hdg : isDig 16 c with
                  | true =>
                    have hr := digR_yes (hex := true) hdg
                    obtain ⟨-, hx0, hx1⟩ := isDig_lo hdg
                    have HDG := Lib.hid hdg
                    rw [hr] at hcd2
                    replace hr := Lib.hid hr
                    clear hdg
                    have hh0 : 0 ≤ hexVal c := hx0
                    have hh1 : hexVal c < 16 := hx1
                    clear hx0 hx1
                    by_cases hkm : k < 6
                    · have hkmi : (k : Int) < 6 := by omega
                      have HV2 := Lib.hid (show v * 16 + hexVal c = valB 16 ((s.data.toList.drop 3).take (k + 1)) by rw [htk.out, valB_snoc, hv.out])
                      have HD2 := Lib.hid (show ∀ b ∈ (s.data.toList.drop 3).take (k + 1), isDig 16 b = true by
                        rw [htk.out]; intro b hb
                        rcases List.mem_append.1 hb with hb | hb
                        · exact hd.out b hb
                        · rw [List.mem_singleton.1 hb]; exact HDG.out)
                      generalize hexVal c = h at *
                      go_wp2_with (go_at_call 22; refine (hcd2 _).mono ?_; rintro e w2 ⟨rfl, rfl⟩)
                      go_roundw
                      case rel => exact ⟨k + 1, p + 1, _, by omega, by omega, Lib.hid (by rw [hp.out]; omega), by go_num, by go_num, rfl, HV2, HD2, hB2⟩
                      case measure => simp only [RowKit.intOf]; omega
                    · obtain rfl : k = 6 := by omega
                      have h59 := dig_ne HDG.out
                      have HRES := Lib.hid (show atR s.data.toList = ([], 0) by
                        rw [hnum.out]
                        refine numRef_no ?_
                        right
                        rw [refK_full hd.out hat.out HDG.out, hat.out]
                        intro e; cases e; exact absurd HDG.out (by rw [dig_59]; simp))
                      generalize hexVal c = h at *
                      go_wp2_with (go_at_call 22; refine (hcd2 _).mono ?_; rintro e w2 ⟨rfl, rfl⟩)
                      go_ret2
                      exact ⟨by rw [HRES.out]; rfl, HB1.out.trans (hB2.out.mono HB1.out.size)⟩
                  | false =>
                    have hr := digR_no (hex := true) hdg
                    rw [hr] at hcd2
                    replace hr := Lib.hid hr
                    have hK := Lib.hid (refK_stop (most := 6) hk hd.out hat.out hdg)
                    have HDG := Lib.hid hdg
                    clear hdg
                    by_cases h0 : k = 0
                    · subst h0
                      have HRES := Lib.hid (show atR s.data.toList = ([], 0) by
                        rw [hnum.out]
                        exact numRef_no (.inl hK.out))
                      go_wp2_with (go_at_call 22; refine (hcd2 _).mono ?_; rintro e w2 ⟨rfl, rfl⟩)
                      go_ret2
                      exact ⟨by rw [HRES.out]; rfl, HB1.out.trans (hB2.out.mono HB1.out.size)⟩
                    · have hk1 : ((k : Int) == 0) = false := by rw [beq_eq_false_iff_ne]; omega
                      by_cases h59 : c = 59
                      · have h59n : ((c.toNat : Int) != 59) = false := by rw [h59]; rfl
                        have HRES := Lib.hid (show atR s.data.toList = (runeText v, 3 + k + 1) by
                          rw [hnum.out, hv.out]
                          exact numRef_yes hK.out h0 (by rw [hat.out, h59]))
                        replace h59 := Lib.hid h59
                        have HP := Lib.hid (show ((p : Int) + 1) = ((3 + k + 1 : Nat) : Int) by rw [hp.out]; omega)
                        have HOK := Lib.hid (rune_ok v hv0)
                        have HBAD := Lib.hid (rune_bad v hv0)
                        by_cases hvz : v = 0
                        · have bv0 : (v == 0) = true := by rw [beq_iff_eq]; exact hvz
                          replace hvz := Lib.hid hvz
                          go_wp2_with (go_at_call 22; refine (hcd2 _).mono ?_; rintro e w2 ⟨rfl, rfl⟩)
                          all_goals
                            go_ret2
                            refine ⟨ret_si ?_ (by first | (rw [HRES.out]; exact HP.out) | (rw [← hnum.out, HRES.out]; exact HP.out)), HB1.out.trans (hB2.out.mono HB1.out.size)⟩
                            first | rw [HRES.out] | rw [← hnum.out, HRES.out]
                            exact HBAD.out (.inl hvz.out)
                        · have bv0 : (v == 0) = false := by rw [beq_eq_false_iff_ne]; exact hvz
                          by_cases hbad : (55296 ≤ v ∧ v ≤ 57343) ∨ 1114111 < v
                          · have HB9 := Lib.hid hbad
                            replace hvz := Lib.hid hvz
                            rcases hbad with ⟨q1, q2⟩ | q1
                            · go_wp2_with (go_at_call 22; refine (hcd2 _).mono ?_; rintro e w2 ⟨rfl, rfl⟩)
                              all_goals
                                go_ret2
                                refine ⟨ret_si ?_ (by first | (rw [HRES.out]; exact HP.out) | (rw [← hnum.out, HRES.out]; exact HP.out)), HB1.out.trans (hB2.out.mono HB1.out.size)⟩
                                first | rw [HRES.out] | rw [← hnum.out, HRES.out]
                                exact HBAD.out (.inr HB9.out)
                            · have q2 : 57343 < v := by omega
                              have q3 : 55296 ≤ v := by omega
                              go_wp2_with (go_at_call 22; refine (hcd2 _).mono ?_; rintro e w2 ⟨rfl, rfl⟩)
                              all_goals
                                go_ret2
                                refine ⟨ret_si ?_ (by first | (rw [HRES.out]; exact HP.out) | (rw [← hnum.out, HRES.out]; exact HP.out)), HB1.out.trans (hB2.out.mono HB1.out.size)⟩
                                first | rw [HRES.out] | rw [← hnum.out, HRES.out]
                                exact HBAD.out (.inr HB9.out)
                          · have q9 : v ≤ 1114111 := by omega
                            have HV9 := Lib.hid hvz
                            replace hvz := Lib.hid hvz
                            rcases (show v < 55296 ∨ 57343 < v by omega) with q1 | q1
                            · replace hbad := Lib.hid hbad
                              go_wp2_with (go_at_call 22; refine (hcd2 _).mono ?_; rintro e w2 ⟨rfl, rfl⟩)
                              all_goals
                                go_ret2
                                refine ⟨ret_si ?_ (by first | (rw [HRES.out]; exact HP.out) | (rw [← hnum.out, HRES.out]; exact HP.out)), HB1.out.trans (hB2.out.mono HB1.out.size)⟩
                                first | rw [HRES.out] | rw [← hnum.out, HRES.out]
                                exact HOK.out HV9.out (.inl q1) q9
                            · replace hbad := Lib.hid hbad
                              go_wp2_with (go_at_call 22; refine (hcd2 _).mono ?_; rintro e w2 ⟨rfl, rfl⟩)
                              all_goals
                                go_ret2
                                refine ⟨ret_si ?_ (by first | (rw [HRES.out]; exact HP.out) | (rw [← hnum.out, HRES.out]; exact HP.out)), HB1.out.trans (hB2.out.mono HB1.out.size)⟩
                                first | rw [HRES.out] | rw [← hnum.out, HRES.out]
                                exact HOK.out HV9.out (.inr q1) q9
                      · have h59i : ((c.toNat : Int) == 59) = false := by rw [beq_eq_false_iff_ne]; exact fun e => h59 (u8_is (n := 59) (by omega) (by omega))
                        have h59n : ((c.toNat : Int) != 59) = true := by rw [bne, h59i]; rfl
                        have HRES := Lib.hid (show atR s.data.toList = ([], 0) by
                          rw [hnum.out]
                          refine numRef_no (.inr ?_)
                          rw [hK.out, hat.out]
                          intro e; exact h59 (Option.some.inj e))
                        go_wp2_with (go_at_call 22; refine (hcd2 _).mono ?_; rintro e w2 ⟨rfl, rfl⟩)
                        go_ret2
                        exact ⟨by rw [HRES.out]; rfl, HB1.out.trans (hB2.out.mono HB1.out.size)⟩
                · obtain rfl : p = s.size := by omega
                  have HRES := Lib.hid (show atR s.data.toList = ([], 0) by
                    rw [hnum.out]
                    refine numRef_no ?_
                    by_cases h0 : refK 16 6 (s.data.toList.drop 3) = 0
                    · exact .inl h0
                    · right
                      rw [List.getElem?_eq_none]
                      · simp
                      · rw [List.length_drop, ← hsz.out]
                        have h9 := refK_ge (base := 16) (most := 6) hk hd.out (by rw [List.length_drop, ← hsz.out]; have := hp.out; omega)
                        have := hp.out
                        omega)
                  have hpi : ¬ ((s.size : Int) < (s.size : Int)) := by omega
                  replace hp := Lib.hid hp
                  go_wp2_with (go_at_call 22; refine (hcd _ _).mono ?_; rintro e w2 ⟨rfl, rfl⟩)
                  all_goals
                    go_ret2
                    exact ⟨by rw [HRES.out]; rfl, HB1.out.trans (hB2.out.mono HB1.out.size)⟩
            · have b88 : ((c2.toNat : Int) == 88) = false := by rw [beq_eq_false_iff_ne]; exact fun e => h88 (u8_is (n := 88) (by omega) (by omega))
              have hnum := Lib.hid (show atR s.data.toList = numRef 10 7 2 s.data.toList by rw [hna.out, if_neg (by simp [h120, h88])])
              replace h120 := Lib.hid h120
              replace h88 := Lib.hid h88
              go_wp2_with fail
              have hcd := fun (c : UInt8) (w' : World) => digit_any c false w'
              go_loopw [9, 12, 13] (fun vi vv vn wx => ∃ (k p : Nat) (v : Int), k ≤ 7 ∧ p ≤ s.size ∧ Hid (p = 2 + k) ∧ vi = .int .i64 p ∧ vn = .int .i64 k ∧ vv = .int .i64 v ∧ Hid (v = valB 10 ((s.data.toList.drop 2).take k)) ∧ Hid (∀ b ∈ (s.data.toList.drop 2).take k, isDig 10 b = true) ∧ Hid (Below w1.heap.size w1 wx)) (fun _ _ n _ => 7 - (RowKit.intOf n).toNat)
              case atStart => exact ⟨0, 2, 0, by omega, by omega, Lib.hid rfl, rfl, rfl, rfl, Lib.hid (by simp [valB]), Lib.hid (fun b hb => by simp at hb), hB⟩
              case round =>
                obtain ⟨k, p, v, hk, hps, hp, rfl, rfl, rfl, hv, hd, hB2⟩ := hrel
                have hk0 : (0 : Int) ≤ (k : Int) := by omega
                have hp0 : (0 : Int) ≤ (p : Int) := by omega
                have hp9 : (p : Int) ≤ 100 := by omega
                have hki : (k : Int) ≤ 7 := by omega
                have hvb := valB_bd (base := 10) (by decide) _ hd.out
                rw [← hv.out] at hvb
                have hv0 : 0 ≤ v := hvb.1
                have hv1 : v ≤ 16777215 := by
                  have h1 : v < 10 ^ ((s.data.toList.drop 2).take k).length := hvb.2
                  have h2 : (10 : Int) ^ ((s.data.toList.drop 2).take k).length ≤ 10 ^ 7 := pow_mono (by omega) (by rw [List.length_take]; omega)
                  have h3 : (10 : Int) ^ 7 ≤ 16777216 := by decide
                  omega
                clear hvb
                by_cases hpl : p < s.size
                · have hpi : (p : Int) < s.size := by omega
                  have hat : (s.data.toList.drop 2)[k]? = some s[p] := by
                    rw [List.getElem?_drop, ← hp.out, List.getElem?_eq_getElem (by rw [← hsz.out]; exact hpl)]; rfl
                  have htk := take_ext hat
                  replace hat := Lib.hid hat
                  replace htk := Lib.hid htk
                  have hcl := s[p].toNat_lt
                  generalize hc : s[p] = c at *
                  have hcd2 := hcd c
                  cases hdg : isDig 10 c with
                  | true =>
                    have hr := digR_yes (hex := false) hdg
                    obtain ⟨-, hx0, hx1⟩ := isDig_lo hdg
                    have HDG := Lib.hid hdg
                    rw [hr] at hcd2
                    replace hr := Lib.hid hr
                    clear hdg
                    have hh0 : 0 ≤ hexVal c := hx0
                    have hh1 : hexVal c < 10 := hx1
                    clear hx0 hx1
                    by_cases hkm : k < 7
                    · have hkmi : (k : Int) < 7 := by omega
                      have HV2 := Lib.hid (show v * 10 + hexVal c = valB 10 ((s.data.toList.drop 2).take (k + 1)) by rw [htk.out, valB_snoc, hv.out])
                      have HD2 := Lib.hid (show ∀ b ∈ (s.data.toList.drop 2).take (k + 1), isDig 10 b = true by
                        rw [htk.out]; intro b hb
                        rcases List.mem_append.1 hb with hb | hb
                        · exact hd.out b hb
                        · rw [List.mem_singleton.1 hb]; exact HDG.out)
                      generalize hexVal c = h at *
                      go_wp2_with (go_at_call 22; refine (hcd2 _).mono ?_; rintro e w2 ⟨rfl, rfl⟩)
                      go_roundw
                      case rel => exact ⟨k + 1, p + 1, _, by omega, by omega, Lib.hid (by rw [hp.out]; omega), by go_num, by go_num, rfl, HV2, HD2, hB2⟩
                      case measure => simp only [RowKit.intOf]; omega
                    · obtain rfl : k = 7 := by omega
                      have h59 := dig_ne HDG.out
                      have HRES := Lib.hid (show atR s.data.toList = ([], 0) by
                        rw [hnum.out]
                        refine numRef_no ?_
                        right
                        rw [refK_full hd.out hat.out HDG.out, hat.out]
                        intro e; cases e; exact absurd HDG.out (by rw [dig_59]; simp))
                      generalize hexVal c = h at *
                      go_wp2_with (go_at_call 22; refine (hcd2 _).mono ?_; rintro e w2 ⟨rfl, rfl⟩)
                      go_ret2
                      exact ⟨by rw [HRES.out]; rfl, HB1.out.trans (hB2.out.mono HB1.out.size)⟩
                  | false =>
                    have hr := digR_no (hex := false) hdg
                    rw [hr] at hcd2
                    replace hr := Lib.hid hr
                    have hK := Lib.hid (refK_stop (most := 7) hk hd.out hat.out hdg)
                    have HDG := Lib.hid hdg
                    clear hdg
                    by_cases h0 : k = 0
                    · subst h0
                      have HRES := Lib.hid (show atR s.data.toList = ([], 0) by
                        rw [hnum.out]
                        exact numRef_no (.inl hK.out))
                      go_wp2_with (go_at_call 22; refine (hcd2 _).mono ?_; rintro e w2 ⟨rfl, rfl⟩)
                      go_ret2
                      exact ⟨by rw [HRES.out]; rfl, HB1.out.trans (hB2.out.mono HB1.out.size)⟩
                    · have hk1 : ((k : Int) == 0) = false := by rw [beq_eq_false_iff_ne]; omega
                      by_cases h59 : c = 59
                      · have h59n : ((c.toNat : Int) != 59) = false := by rw [h59]; rfl
                        have HRES := Lib.hid (show atR s.data.toList = (runeText v, 2 + k + 1) by
                          rw [hnum.out, hv.out]
                          exact numRef_yes hK.out h0 (by rw [hat.out, h59]))
                        replace h59 := Lib.hid h59
                        have HP := Lib.hid (show ((p : Int) + 1) = ((2 + k + 1 : Nat) : Int) by rw [hp.out]; omega)
                        have HOK := Lib.hid (rune_ok v hv0)
                        have HBAD := Lib.hid (rune_bad v hv0)
                        by_cases hvz : v = 0
                        · have bv0 : (v == 0) = true := by rw [beq_iff_eq]; exact hvz
                          replace hvz := Lib.hid hvz
                          go_wp2_with (go_at_call 22; refine (hcd2 _).mono ?_; rintro e w2 ⟨rfl, rfl⟩)
                          all_goals
                            go_ret2
                            refine ⟨ret_si ?_ (by first | (rw [HRES.out]; exact HP.out) | (rw [← hnum.out, HRES.out]; exact HP.out)), HB1.out.trans (hB2.out.mono HB1.out.size)⟩
                            first | rw [HRES.out] | rw [← hnum.out, HRES.out]
                            exact HBAD.out (.inl hvz.out)
                        · have bv0 : (v == 0) = false := by rw [beq_eq_false_iff_ne]; exact hvz
                          by_cases hbad : (55296 ≤ v ∧ v ≤ 57343) ∨ 1114111 < v
                          · have HB9 := Lib.hid hbad
                            replace hvz := Lib.hid hvz
                            rcases hbad with ⟨q1, q2⟩ | q1
                            · go_wp2_with (go_at_call 22; refine (hcd2 _).mono ?_; rintro e w2 ⟨rfl, rfl⟩)
                              all_goals
                                go_ret2
                                refine ⟨ret_si ?_ (by first | (rw [HRES.out]; exact HP.out) | (rw [← hnum.out, HRES.out]; exact HP.out)), HB1.out.trans (hB2.out.mono HB1.out.size)⟩
                                first | rw [HRES.out] | rw [← hnum.out, HRES.out]
                                exact HBAD.out (.inr HB9.out)
                            · have q2 : 57343 < v := by omega
                              have q3 : 55296 ≤ v := by omega
                              go_wp2_with (go_at_call 22; refine (hcd2 _).mono ?_; rintro e w2 ⟨rfl, rfl⟩)
                              all_goals
                                go_ret2
                                refine ⟨ret_si ?_ (by first | (rw [HRES.out]; exact HP.out) | (rw [← hnum.out, HRES.out]; exact HP.out)), HB1.out.trans (hB2.out.mono HB1.out.size)⟩
                                first | rw [HRES.out] | rw [← hnum.out, HRES.out]
                                exact HBAD.out (.inr HB9.out)
                          · have q9 : v ≤ 1114111 := by omega
                            have HV9 := Lib.hid hvz
                            replace hvz := Lib.hid hvz
                            rcases (show v < 55296 ∨ 57343 < v by omega) with q1 | q1
                            · replace hbad := Lib.hid hbad
                              go_wp2_with (go_at_call 22; refine (hcd2 _).mono ?_; rintro e w2 ⟨rfl, rfl⟩)
                              all_goals
                                go_ret2
                                refine ⟨ret_si ?_ (by first | (rw [HRES.out]; exact HP.out) | (rw [← hnum.out, HRES.out]; exact HP.out)), HB1.out.trans (hB2.out.mono HB1.out.size)⟩
                                first | rw [HRES.out] | rw [← hnum.out, HRES.out]
                                exact HOK.out HV9.out (.inl q1) q9
                            · replace hbad := Lib.hid hbad
                              go_wp2_with (go_at_call 22; refine (hcd2 _).mono ?_; rintro e w2 ⟨rfl, rfl⟩)
                              all_goals
                                go_ret2
                                refine ⟨ret_si ?_ (by first | (rw [HRES.out]; exact HP.out) | (rw [← hnum.out, HRES.out]; exact HP.out)), HB1.out.trans (hB2.out.mono HB1.out.size)⟩
                                first | rw [HRES.out] | rw [← hnum.out, HRES.out]
                                exact HOK.out HV9.out (.inr q1) q9
                      · have h59i : ((c.toNat : Int) == 59) = false := by rw [beq_eq_false_iff_ne]; exact fun e => h59 (u8_is (n := 59) (by omega) (by omega))
                        have h59n : ((c.toNat : Int) != 59) = true := by rw [bne, h59i]; rfl
                        have HRES := Lib.hid (show atR s.data.toList = ([], 0) by
                          rw [hnum.out]
                          refine numRef_no (.inr ?_)
                          rw [hK.out, hat.out]
                          intro e; exact h59 (Option.some.inj e))
                        go_wp2_with (go_at_call 22; refine (hcd2 _).mono ?_; rintro e w2 ⟨rfl, rfl⟩)
                        go_ret2
                        exact ⟨by rw [HRES.out]; rfl, HB1.out.trans (hB2.out.mono HB1.out.size)⟩
                · obtain rfl : p = s.size := by omega
                  have HRES := Lib.hid (show atR s.data.toList = ([], 0) by
                    rw [hnum.out]
                    refine numRef_no ?_
                    by_cases h0 : refK 10 7 (s.data.toList.drop 2) = 0
                    · exact .inl h0
                    · right
                      rw [List.getElem?_eq_none]
                      · simp
                      · rw [List.length_drop, ← hsz.out]
                        have h9 := refK_ge (base := 10) (most := 7) hk hd.out (by rw [List.length_drop, ← hsz.out]; have := hp.out; omega)
                        have := hp.out
                        omega)
                  have hpi : ¬ ((s.size : Int) < (s.size : Int)) := by omega
                  replace hp := Lib.hid hp
                  go_wp2_with (go_at_call 22; refine (hcd _ _).mono ?_; rintro e w2 ⟨rfl, rfl⟩)
                  all_goals
                    go_ret2
                    exact ⟨by rw [HRES.out]; rfl, HB1.out.trans (hB2.out.mono HB1.out.size)⟩
end Go.Proofs.YtnehpclbflnpaaaDoor

