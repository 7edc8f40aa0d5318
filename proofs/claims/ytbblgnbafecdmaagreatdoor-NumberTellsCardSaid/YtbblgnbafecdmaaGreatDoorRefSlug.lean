/- bowdlerref14.Slug: the walk. -/
import Derived.Test.YtbblgnbafecdmaaGreatDoorSlugLaws
import Derived.Test.YtbblgnbafecdmaaGreatDoorFoldRef
import Derived.Lib.TrimByte
namespace Go.Proofs.YtbblgnbafecdmaaGreatDoor
open Go.RowKit Go.Lib

/-- the reference's text so far: what the program has written, and the dash that it has not -/
def RefSt (X F : List UInt8) (k : Nat) (O : List UInt8) : Prop :=
  ∃ (acc : List UInt8) (g : Bool), O = acc ++ (if (g && anyB acc) = true then [45] else []) ∧ acc ++ ofB (anyB acc) g (F.drop k) = X ∧ ∀ b, acc.getLast? = some b → alnum b = true
theorem RefSt.start {F : List UInt8} : RefSt (ofB false false F) F 0 [] := ⟨[], false, rfl, by rw [List.drop_zero]; rfl, by simp⟩
theorem drop_at {F : List UInt8} {k : Nat} (h : k < F.length) : F.drop k = F[k] :: F.drop (k + 1) := List.drop_eq_getElem_cons h
theorem RefSt.take {X F O : List UInt8} {k : Nat} (h : RefSt X F k O) (hk : k < F.length) (hb : alnum F[k] = true) : RefSt X F (k + 1) (O ++ [F[k]]) := by
  obtain ⟨acc, g, hO, hX, -⟩ := h
  rw [drop_at hk, ofB_take _ hb] at hX
  refine ⟨O ++ [F[k]], false, by simp, ?_, ?_⟩
  · rw [anyB_app (by simp), ← hX, hO]
    split <;> simp
  · intro b hbl
    rw [List.getLast?_append] at hbl
    simp at hbl
    rw [← hbl]; exact hb
theorem RefSt.skip {X F O : List UInt8} {k : Nat} (h : RefSt X F k O) (hk : k < F.length) (hb : alnum F[k] = false) :
    (O = [] → RefSt X F (k + 1) O) ∧ (O.getLast? = some 45 → RefSt X F (k + 1) O) ∧ (O ≠ [] → O.getLast? ≠ some 45 → RefSt X F (k + 1) (O ++ [45])) := by
  obtain ⟨acc, g, hO, hX, hl⟩ := h
  rw [drop_at hk] at hX
  simp only [ofB] at hX
  rw [if_neg (by rw [hb]; simp)] at hX
  refine ⟨fun h0 => ?_, fun h1 => ?_, fun h2 h3 => ?_⟩
  · have ha : acc = [] := by
      rw [h0] at hO
      exact (List.append_eq_nil_iff.1 hO.symm).1
    exact ⟨acc, true, by rw [h0, ha]; rfl, hX, hl⟩
  · have hg : (g && anyB acc) = true := by
      cases hq : (g && anyB acc) with
      | true => rfl
      | false =>
        rw [hq, if_neg (by simp), List.append_nil] at hO
        rw [hO] at h1
        have := hl _ h1
        rw [alnum_45] at this; cases this
    have ha : anyB acc = true := by simp at hg; exact hg.2
    exact ⟨acc, true, by rw [hO, hg, ha]; rfl, hX, hl⟩
  · have hg : (g && anyB acc) = false := by
      cases hq : (g && anyB acc) with
      | false => rfl
      | true =>
        exfalso
        rw [hq, if_pos rfl] at hO
        exact h3 (by rw [hO]; simp)
    rw [hg, if_neg (by simp), List.append_nil] at hO
    have ha : anyB acc = true := by
      unfold anyB
      rw [← hO]
      simpa using List.length_pos_iff.2 h2
    exact ⟨acc, true, by rw [hO, ha]; rfl, hX, hl⟩
theorem trimR_snoc (l : List UInt8) (c : UInt8) : Lib.trimRightB (l ++ [c]) c = Lib.trimRightB l c := by
  unfold Lib.trimRightB
  rw [List.reverse_append]
  simp
theorem RefSt.done {X F O : List UInt8} (hd : X = [] ∨ dashOk false X) (h : RefSt X F F.length O) : (X = [] → Lib.trimRightB (O.take 40) 45 = []) ∧ (X ≠ [] → Lib.trimRightB (O.take 40) 45 = cutB X ∧ cutB X ≠ []) := by
  obtain ⟨acc, g, hO, hX, -⟩ := h
  rw [List.drop_length] at hX
  have hX : acc = X := by simpa [ofB] using hX
  subst hX
  refine ⟨fun h0 => ?_, fun h0 => ⟨?_, ?_⟩⟩
  · subst h0
    rw [hO]
    have : (g && anyB []) = false := by unfold anyB; simp
    rw [this]
    rfl
  · unfold cutB
    rw [if_neg h0, hO]
    split
    · rcases Nat.lt_or_ge acc.length 40 with h9 | h9
      · rw [List.take_of_length_le (by simp; omega), trimR_snoc, List.take_of_length_le (by omega)]
      · rw [List.take_append_of_le_length h9]
    · rw [List.append_nil]
  · rcases hd with hd | hd
    · exact absurd hd h0
    · exact dashOk_ne (cutB_ok (.inr hd)).1

set_option maxRecDepth 100000 in
set_option maxHeartbeats 4000000 in
theorem refSlug_any {w : World} (s : ByteArray) (hT : Tabs w) (hs : s.size ≤ 300000) :
    Calls Tryz.prog 60 #[.string s] w fun e w' => e = .returned (.string ⟨(slugL s.data.toList).toArray⟩) ∧ Below w.heap.size w w' := by
  have HT := Lib.hid hT
  clear hT
  go_enter Tryz.func60, Tryz.ntmps60
  go_wp2_with fail
  refine (fold_ref_from s (Below.refl _ _) HT.out (by omega)).mono ?_
  rintro e w1 ⟨rfl, hb1⟩
  have HB1 := Lib.hid hb1
  clear hb1
  obtain ⟨F, hF⟩ : ∃ F : ByteArray, (⟨(foldF s.data.toList).toArray⟩ : ByteArray) = F := ⟨_, rfl⟩
  have hFl : foldF s.data.toList = F.data.toList := by rw [← hF]
  have hFs : F.size ≤ 900000 := by rw [ba_size, ← hFl]; have := foldF_len s.data.toList; rw [← ba_size] at this; omega
  rw [hF]
  obtain ⟨X, hX⟩ : ∃ X, ofB false false F.data.toList = X := ⟨_, rfl⟩
  have hXs : slugL s.data.toList = cutB X := by unfold slugL slugB; rw [hFl, hX]
  have hXd : X = [] ∨ dashOk false X := by rw [← hX]; exact (ofB_ok F.data.toList).2 false
  have hst : RefSt X F.data.toList 0 [] := by rw [← hX]; exact RefSt.start
  replace hF := Lib.hid hF
  replace hFl := Lib.hid hFl
  replace hX := Lib.hid hX
  replace hXs := Lib.hid hXs
  replace hXd := Lib.hid hXd
  replace hst := Lib.hid hst
  go_wp2_with fail
  go_loop [4, 5] (fun o i => ∃ (O : ByteArray) (k : Nat), k ≤ F.size ∧ o = .string O ∧ i = .int .i64 k ∧ Hid (RefSt X F.data.toList k O.data.toList) ∧ O.size ≤ 2 * k) (fun _ i => F.size - (RowKit.intOf i).toNat)
  case atStart => exact ⟨_, 0, Nat.zero_le _, rfl, rfl, hst, by decide⟩
  case round =>
    obtain ⟨O, k, hk, rfl, rfl, hR, hOs⟩ := hrel
    by_cases hlt : k < F.size
    · have hkl : k < F.data.toList.length := by rw [← ba_size]; exact hlt
      have hbe : F[k] = F.data.toList[k] := rfl
      cases hal : alnum F[k] with
      | true =>
        have hN := Lib.hid (hR.out.take hkl hal)
        have hex : (O ++ F.extract k (k + 1)).data.toList = O.data.toList ++ [F.data.toList[k]] := by
          rw [ba_append, ba_extract, List.drop_take, Nat.add_sub_cancel_left, drop_at hkl]; rfl
        have hexz : (F.extract k (k + 1)).size = 1 := by simp; omega
        have HEX := Lib.hid hex
        clear hex hbe
        have hcase : (decide ((97 : Int) ≤ F[k].toNat) = true ∧ decide ((F[k].toNat : Int) ≤ 122) = true) ∨ (decide ((97 : Int) ≤ F[k].toNat) = false ∧ decide ((48 : Int) ≤ F[k].toNat) = true ∧ decide ((F[k].toNat : Int) ≤ 57) = true) := by
          unfold alnum at hal; simp at hal; simp only [decide_eq_true_eq, decide_eq_false_iff_not]; omega
        replace hal := Lib.hid hal
        rcases hcase with ⟨t1, t2⟩ | ⟨t1, t2, t3⟩
        all_goals go_wp2_with fail
        all_goals first
          | (go_round
             case rel => exact ⟨_, k + 1, by omega, rfl, by go_num, Lib.hid (by rw [HEX.out]; exact hN.out), by rw [ByteArray.size_append, hexz]; omega⟩
             case measure => simp only [RowKit.intOf]; omega)
      | false =>
        have hN := Lib.hid (hR.out.skip hkl hal)
        clear hbe
        have hcase : (decide ((97 : Int) ≤ F[k].toNat) = true ∧ decide ((F[k].toNat : Int) ≤ 122) = false ∧ decide ((48 : Int) ≤ F[k].toNat) = true ∧ decide ((F[k].toNat : Int) ≤ 57) = false) ∨ (decide ((97 : Int) ≤ F[k].toNat) = false ∧ decide ((48 : Int) ≤ F[k].toNat) = true ∧ decide ((F[k].toNat : Int) ≤ 57) = false) ∨ (decide ((97 : Int) ≤ F[k].toNat) = false ∧ decide ((48 : Int) ≤ F[k].toNat) = false) := by
          unfold alnum at hal; simp at hal; simp only [decide_eq_true_eq, decide_eq_false_iff_not]; omega
        replace hal := Lib.hid hal
        by_cases hO0 : O.size = 0
        · have he : O.toList.isEmpty = true := by rw [Lib.toList_data, List.isEmpty_iff_length_eq_zero, ← ba_size]; exact hO0
          have hN1 := Lib.hid (hN.out.1 (List.eq_nil_of_length_eq_zero (by rw [← ba_size]; exact hO0)))
          clear hN
          replace hO0 := Lib.hid hO0
          rcases hcase with ⟨t1, t2, t3, t4⟩ | ⟨t1, t2, t3⟩ | ⟨t1, t2⟩
          all_goals go_wp2_with fail
          all_goals first
            | (go_round
               case rel => exact ⟨O, k + 1, by omega, rfl, by go_num, hN1, by omega⟩
               case measure => simp only [RowKit.intOf]; omega)
        · have hOp : 0 < O.size := by omega
          have he : O.toList.isEmpty = false := by rw [Lib.toList_data]; cases hq : O.data.toList with | nil => exact absurd (by rw [ba_size, hq]; rfl) hO0 | cons a l => rfl
          have hlast : O.data.toList.getLast? = some (O[O.size - 1]'(by omega)) := by
            rw [List.getLast?_eq_getElem?, ← ba_size, List.getElem?_eq_getElem (by rw [← ba_size]; omega)]; rfl
          replace hO0 := Lib.hid hO0
          cases hq : ((O[O.size - 1]'(by omega)).toNat : Int) != 45 with
          | false =>
            have hN1 := Lib.hid (hN.out.2.1 (by
              rw [hlast]; congr 1; apply UInt8.toNat_inj.1
              have : ((O[O.size - 1]'(by omega)).toNat : Int) = 45 := by simpa using hq
              show _ = 45; omega))
            replace hlast := Lib.hid hlast
            clear hN
            rcases hcase with ⟨t1, t2, t3, t4⟩ | ⟨t1, t2, t3⟩ | ⟨t1, t2⟩
            all_goals go_wp2_with fail
            all_goals first
              | (go_round
                 case rel => exact ⟨O, k + 1, by omega, rfl, by go_num, hN1, by omega⟩
                 case measure => simp only [RowKit.intOf]; omega)
          | true =>
            have hN1 := Lib.hid (hN.out.2.2 (fun e => hO0.out (by rw [ba_size, e]; rfl)) (by
              rw [hlast]; intro e
              have h8 := Option.some.inj e
              rw [h8] at hq; revert hq; decide))
            replace hlast := Lib.hid hlast
            have hdz : (O ++ ⟨#[45]⟩ : ByteArray).size = O.size + 1 := by rw [ByteArray.size_append]; rfl
            have hde := Lib.hid (show (O ++ ⟨#[45]⟩ : ByteArray).data.toList = O.data.toList ++ [45] by rw [ba_append])
            replace hdz := Lib.hid hdz
            clear hN
            rcases hcase with ⟨t1, t2, t3, t4⟩ | ⟨t1, t2, t3⟩ | ⟨t1, t2⟩
            all_goals go_wp2_with fail
            all_goals first
              | (go_round
                 case rel => exact ⟨_, k + 1, by omega, rfl, by go_num, Lib.hid (by rw [hde.out]; exact hN1.out), by rw [hdz.out]; omega⟩
                 case measure => simp only [RowKit.intOf]; omega)
    · have hke : k = F.data.toList.length := by rw [← ba_size]; omega
      have hdone := hR.out
      rw [hke] at hdone
      have hD := Lib.hid (hdone.done hXd.out)
      clear hdone
      obtain ⟨T, hTd⟩ : ∃ T : ByteArray, O.extract 0 (min (O.size : Int) 40).toNat = T := ⟨_, rfl⟩
      have hTl : T.data.toList = O.data.toList.take 40 := by
        rw [← hTd, ba_extract, List.drop_zero]
        have h8 : (min (O.size : Int) 40).toNat = min O.size 40 := by omega
        rw [h8, ba_size]
        rcases Nat.le_total O.data.toList.length 40 with h9 | h9
        · rw [Nat.min_eq_left h9, List.take_of_length_le (Nat.le_refl _), List.take_of_length_le h9]
        · rw [Nat.min_eq_right h9]
      have hTs : T.size ≤ 40 := by rw [ba_size, hTl, List.length_take]; omega
      have HTL := Lib.hid hTl
      replace hke := Lib.hid hke
      clear hTl
      go_wp2_with fail
      replace hTd := Lib.hid hTd
      go_loop [4] (fun v => ∃ R : ByteArray, v = .string R ∧ R.size ≤ T.size ∧ Hid (R.data.toList = T.data.toList.take R.size) ∧ Hid (∀ j b, R.size ≤ j → T.data.toList[j]? = some b → b = 45)) (fun v => match v with | .string R => R.size | _ => 0)
      case atStart => exact ⟨T, rfl, Nat.le_refl _, Lib.hid (by rw [ba_size, List.take_length]), Lib.hid (fun j b h1 h2 => by rw [ba_size] at h1; rw [List.getElem?_eq_none h1] at h2; cases h2)⟩
      case round =>
        obtain ⟨R, rfl, hRs, hRl, hRd⟩ := hrel
        have hend : (∀ b, 0 < R.size → T.data.toList[R.size - 1]? = some b → b ≠ 45) → R.data.toList = Lib.trimRightB (O.data.toList.take 40) 45 := fun h9 => by
          rw [← HTL.out, Lib.trimRightB_take T.data.toList 45 R.size (by rw [← ba_size]; exact hRs) hRd.out h9]
          exact hRl.out
        by_cases hR0 : R.size = 0
        · have he : R.toList.isEmpty = true := by rw [Lib.toList_data, List.isEmpty_iff_length_eq_zero, ← ba_size]; exact hR0
          have hRe : R.data.toList = [] := List.eq_nil_of_length_eq_zero (by rw [← ba_size]; exact hR0)
          have hfin := hend (fun b h1 _ => by omega)
          have hX0 : X = [] := by
            by_cases hX0 : X = []
            · exact hX0
            · have := hD.out.2 hX0
              rw [← hfin, hRe] at this
              exact absurd this.1.symm this.2
          replace hfin := Lib.hid hfin
          replace hRe := Lib.hid hRe
          replace hR0 := Lib.hid hR0
          replace hX0 := Lib.hid hX0
          clear hend
          go_wp2_with fail
          go_ret
          rw [hXs.out, hX0.out]
          exact ⟨rfl, HB1.out⟩
        · have hRp : 0 < R.size := by omega
          have he : R.toList.isEmpty = false := by rw [Lib.toList_data]; cases hq : R.data.toList with | nil => exact absurd (by rw [ba_size, hq]; rfl) hR0 | cons a l => rfl
          cases hlast : ((R[R.size - 1]'(by omega)).toNat : Int) == 45 with
          | true =>
            have HL := Lib.hid hlast
            have hRe : (R.extract 0 (R.size - 1)).data.toList = T.data.toList.take (R.size - 1) := by
              rw [ba_extract, List.drop_zero, hRl.out, List.take_take]; congr 1; omega
            have hRz : (R.extract 0 (R.size - 1)).size = R.size - 1 := by simp
            have HRD := Lib.hid (show ∀ j b, R.size - 1 ≤ j → T.data.toList[j]? = some b → b = 45 from fun j b h1 h2 => by
              rcases Nat.lt_or_ge j R.size with h3 | h3
              · have h4 : j = R.size - 1 := by omega
                have h5 := HL.out
                rw [beq_iff_eq] at h5
                have h6 : R.data.toList[j]? = some b := by rw [hRl.out, List.getElem?_take_of_lt h3, h2]
                have h7 : j < R.data.toList.length := by rw [← ba_size]; exact h3
                rw [List.getElem?_eq_getElem h7] at h6
                have h8 : R[R.size - 1]'(by omega) = b := by
                  show R.data.toList[R.size - 1]'(by rw [← ba_size]; omega) = b
                  simp only [← h4]; exact Option.some.inj h6
                rw [h8] at h5
                apply UInt8.toNat_inj.1
                show b.toNat = 45
                omega
              · exact hRd.out j b h3 h2)
            replace hRe := Lib.hid hRe
            replace hRz := Lib.hid hRz
            clear hend
            replace hR0 := Lib.hid hR0
            go_wp2_with fail
            go_round
            case rel => exact ⟨_, rfl, by rw [hRz.out]; omega, Lib.hid (by rw [hRz.out]; exact hRe.out), Lib.hid (by rw [hRz.out]; exact HRD.out)⟩
            case measure =>
              show (R.extract 0 (R.size - 1)).size < R.size
              rw [hRz.out]; omega
          | false =>
            have hfin := hend (fun b h1 h2 e => by
              have h6 : R.data.toList[R.size - 1]? = some b := by rw [hRl.out, List.getElem?_take_of_lt (by omega), h2]
              have h7 : R.size - 1 < R.data.toList.length := by rw [← ba_size]; omega
              rw [List.getElem?_eq_getElem h7] at h6
              have h8 : R[R.size - 1]'(by omega) = b := Option.some.inj h6
              rw [h8, e] at hlast
              revert hlast; decide)
            have hX1 : R.data.toList = cutB X := by
              by_cases hX0 : X = []
              · exfalso
                rw [hD.out.1 hX0] at hfin
                exact hR0 (by rw [ba_size, hfin]; rfl)
              · rw [hfin]; exact (hD.out.2 hX0).1
            replace hfin := Lib.hid hfin
            replace hX1 := Lib.hid hX1
            clear hend
            replace hR0 := Lib.hid hR0
            go_wp2_with fail
            go_ret
            rw [hXs.out, ← hX1.out]
            exact ⟨rfl, HB1.out⟩
end Go.Proofs.YtbblgnbafecdmaaGreatDoor
