/- slug.Of: the walk. -/
import Derived.Test.YtbblgnbafecdmaaGreatDoorSlugPlain
import Derived.Test.YtbblgnbafecdmaaGreatDoorFold
namespace Go.Proofs.YtbblgnbafecdmaaGreatDoor
open Go.RowKit Go.Lib

theorem fold_any {w : World} (s : ByteArray) (hT : Tabs w) (hs : s.size ≤ 1000000) :
    Calls Tryz.prog 76 #[.string s] w fun e w' => e = .returned (.string ⟨(foldF s.data.toList).toArray⟩) ∧ Below w.heap.size w w' := fold_from s (Below.refl _ _) hT hs

theorem foldF_len (l : List UInt8) : (foldF l).length ≤ 3 * l.length := by
  have key : ∀ (ts : List (Nat × List UInt8)), (∀ x ∈ ts, GoodTok x) → ∀ a g, (foldT a g ts).length ≤ 3 * (ts.flatMap (·.2)).length := by
    intro ts
    induction ts with
    | nil => intro _ a g; simp [foldT]
    | cons x ts ih =>
      intro hg a g
      have hx := foldTok_length (hg x (by simp))
      have ih' := ih (fun y hy => hg y (List.mem_cons_of_mem _ hy))
      have h1 := ih' a true
      have h2 := ih' true false
      have h3 := ih' a a
      rw [List.flatMap_cons, List.length_append]
      unfold foldT
      split
      · first | omega | (have := ih' a g; omega)
      · repeat' split
        all_goals simp only [List.length_append, List.length_cons, List.length_nil]
        all_goals omega
  have := key (toks l) (toks_good l) false false
  rw [toks_flat] at this
  exact this

set_option maxRecDepth 100000 in
set_option maxHeartbeats 4000000 in
theorem of_any {w : World} (s : ByteArray) (hT : Tabs w) (hs : s.size ≤ 300000) :
    Calls Tryz.prog 59 #[.string s] w fun e w' => e = .returned (.string ⟨(slugL s.data.toList).toArray⟩) ∧ Below w.heap.size w w' := by
  have HT := Lib.hid hT
  clear hT
  go_enter Tryz.func59, Tryz.ntmps59
  go_wp2_with fail
  have HB0 := Lib.hid ((Below.refl w.heap.size w).alloc (Nat.le_refl _) (.cells #[.pointer none, .slice none 0 0] 114))
  refine (fold_any s (HT.out.on HB0.out) (by omega)).mono ?_
  rintro e w1 ⟨rfl, hb1⟩
  have hH : Holds w.heap.size [] w1 := (Holds.fresh w).below hb1
  have hB1 : Below w.heap.size w w1 := HB0.out.trans (hb1.mono (by simp))
  have hsz1 : w.heap.size + 1 ≤ w1.heap.size := by have := hb1.size; simpa using this
  obtain ⟨F, hF⟩ : ∃ F : ByteArray, (⟨(foldF s.data.toList).toArray⟩ : ByteArray) = F := ⟨_, rfl⟩
  have hFl : foldF s.data.toList = F.data.toList := by rw [← hF]
  have hFs : F.size ≤ 900000 := by rw [ba_size, ← hFl]; have := foldF_len s.data.toList; rw [← ba_size] at this; omega
  rw [hF]
  obtain ⟨X, hX⟩ : ∃ X, ofB false false F.data.toList = X := ⟨_, rfl⟩
  have hXs : slugL s.data.toList = cutB X := by unfold slugL slugB; rw [hFl, hX]
  replace hF := Lib.hid hF
  replace hFl := Lib.hid hFl
  replace hX := Lib.hid hX
  replace hXs := Lib.hid hXs
  have HH := Lib.hid hH
  have HB1 := Lib.hid hB1
  clear hH hB1 hb1
  have hkb : w1.heap.size ≠ w.heap.size := by omega
  go_wp2_with fail
  go_loopw [4, 6] (fun g _ wr => ∃ (pos : Nat) (acc : List UInt8) (b : Bool), g = .bool b ∧ St w w.heap.size w1.heap.size F pos acc wr ∧ Hid (acc ++ ofB (anyB acc) b (F.data.toList.drop pos) = X) ∧ acc.length ≤ 2 * pos ∧ pos ≤ F.size) (fun _ _ wr => F.size - wr.iterPos w1.heap.size)
  case atStart =>
    refine ⟨0, [], false, rfl, ⟨?_, ?_, HB1.out.alloc HB1.out.size _⟩, Lib.hid (by rw [List.drop_zero]; exact hX.out), by simp, Nat.zero_le _⟩
    · exact HH.out.alloc _
    · have := World.iter_heap w1 F 0
      simpa using this
  case round =>
    obtain ⟨pos, acc, g, rfl, hS, HA, hal, hps⟩ := hrel
    have hlt := hS.lt
    by_cases hp : pos < F.size
    · obtain ⟨r, n, hn1, hpn, hrl, hnx, HI, hbw2, hsz2, HP1, HP2, HD, HNE, HG, HT2, HTK⟩ := iter_step hS.iter hp hS.below (by omega)
      have hS2 : St w w.heap.size w1.heap.size F (pos + n) acc (wr.iterAt w1.heap.size F (pos + n)) := ⟨hS.holds.iterAt hS.iter (pos + n), HI.out, hbw2⟩
      have hdr := Lib.hid (show F.data.toList.drop pos = (F.data.toList.drop pos).take n ++ F.data.toList.drop (pos + n) by rw [← List.drop_drop, List.take_append_drop])
      have HS2 := Lib.hid hS2
      clear hS hS2 hbw2
      by_cases hal2 : 97 ≤ r ∧ r ≤ 122 ∨ 48 ≤ r ∧ r ≤ 57
      · obtain ⟨b, eb, hbr, hba, henc⟩ := tok_take HG.out hal2
        rw [eb] at hdr
        have hn2 : n = 1 := by
          have := congrArg List.length eb
          rw [List.length_take, List.length_drop, ← ba_size] at this
          simp at this; omega
        have hst := hdr.out
        have hA2 := HA.out
        rw [hst, List.cons_append, List.nil_append, ofB_take b hba] at hA2
        have HA2 := Lib.hid hA2
        have HEN := Lib.hid henc
        clear hst hA2 henc eb hbr hba hdr
        have hcase : (decide ((r : Int) < 97) = true ∧ decide ((r : Int) < 48) = false ∧ decide ((57 : Int) < r) = false) ∨ (decide ((r : Int) < 97) = false ∧ decide ((122 : Int) < r) = false) := by
          simp only [decide_eq_true_eq, decide_eq_false_iff_not]; omega
        have cLen : ∀ {w' : World}, St w w.heap.size w1.heap.size F (pos + n) acc w' → Calls Tryz.prog 77 #[.pointer (some ⟨w.heap.size, 0, none⟩)] w' fun e w2 => e = .returned (.int .i64 acc.length) ∧ St w w.heap.size w1.heap.size F (pos + n) acc w2 := fun h => (read_len h.holds).mono fun e w2 ⟨he, hw⟩ => ⟨he, by rw [hw]; exact h⟩
        have cWb : ∀ {w' : World}, St w w.heap.size w1.heap.size F (pos + n) acc w' → Calls Tryz.prog 78 #[.pointer (some ⟨w.heap.size, 0, none⟩), .int .u8 45] w' fun e w2 => e = .returned .nilIface ∧ St w w.heap.size w1.heap.size F (pos + n) (acc ++ [45]) w2 := fun h => (write_byte (c := 45) h.holds (by have := h.lt; omega) (by omega)).mono fun e w2 ⟨he, hw⟩ => ⟨he, h.wrote hw (Nat.le_refl _) hkb⟩
        have cWr : ∀ {acc' : List UInt8} {w' : World}, acc'.length ≤ 3000001 → St w w.heap.size w1.heap.size F (pos + n) acc' w' → Calls Tryz.prog 79 #[.pointer (some ⟨w.heap.size, 0, none⟩), .int .i32 (r : Int)] w' fun e w2 => e = .returned (.tuple #[.int .i64 (Lib.runeCells (r : Int)).length, .nilIface]) ∧ St w w.heap.size w1.heap.size F (pos + n) (acc' ++ [b]) w2 := fun {acc'} {w'} hl h => (write_rune h.holds (by have := h.lt; omega) (by omega) (by omega) (by omega)).mono fun e w2 ⟨he, hw⟩ => ⟨he, by have := h.wrote hw (Nat.le_refl _) hkb; rw [HEN.out] at this; exact this⟩
        clear hal2
        subst hn2
        cases g with
        | false =>
          have HA3 := Lib.hid (by have := HA2.out; rw [Bool.false_and, if_neg (by simp)] at this; exact this)
          clear HA2
          rcases hcase with ⟨t1, t2, t3⟩ | ⟨t1, t2⟩
          all_goals go_wp2_with fail
          all_goals refine (cWr (by omega) HS2.out).mono ?_
          all_goals rintro e w2 ⟨rfl, hS3⟩
          all_goals have HS4 := Lib.hid hS3
          all_goals clear hS3 cLen cWb cWr
          all_goals go_wp2_with fail
          all_goals first
            | (go_roundw
               case rel =>
                 refine ⟨pos + 1, acc ++ [b], false, rfl, HS4.out, Lib.hid ?_, by simp; omega, by omega⟩
                 rw [anyB_app (by simp)]
                 simpa using HA3.out
               case measure => rw [HP1.out, iterPos_at HS4.out.iter]; omega)
        | true =>
          by_cases h0 : 0 < acc.length
          · have HA3 := Lib.hid (by have := HA2.out; rw [show anyB acc = true by unfold anyB; simpa using h0, Bool.true_and, if_pos rfl] at this; exact this)
            clear HA2
            rcases hcase with ⟨t1, t2, t3⟩ | ⟨t1, t2⟩
            all_goals go_wp2_with fail
            all_goals refine (cLen HS2.out).mono ?_
            all_goals rintro e w2 ⟨rfl, hS3⟩
            all_goals have HS3 := Lib.hid hS3
            all_goals clear hS3
            all_goals go_wp2_with fail
            all_goals refine (cWb HS3.out).mono ?_
            all_goals rintro e w3 ⟨rfl, hS4⟩
            all_goals have HS5 := Lib.hid hS4
            all_goals clear hS4
            all_goals go_wp2_with fail
            all_goals refine (cWr (by simp; omega) HS5.out).mono ?_
            all_goals rintro e w4 ⟨rfl, hS3⟩
            all_goals have HS4 := Lib.hid hS3
            all_goals clear hS3 cLen cWb cWr
            all_goals go_wp2_with fail
            all_goals first
              | (go_roundw
                 case rel =>
                   refine ⟨pos + 1, (acc ++ [45]) ++ [b], false, rfl, HS4.out, Lib.hid ?_, by simp; omega, by omega⟩
                   rw [anyB_app (by simp)]
                   simpa using HA3.out
                 case measure => rw [HP1.out, iterPos_at HS4.out.iter]; omega)
          · have hac : acc = [] := List.eq_nil_of_length_eq_zero (by omega)
            have HA3 := Lib.hid (by have := HA2.out; rw [show anyB acc = false by unfold anyB; simpa using h0, Bool.and_false, if_neg (by simp)] at this; exact this)
            clear HA2
            replace hac := Lib.hid hac
            rcases hcase with ⟨t1, t2, t3⟩ | ⟨t1, t2⟩
            all_goals go_wp2_with fail
            all_goals refine (cLen HS2.out).mono ?_
            all_goals rintro e w2 ⟨rfl, hS3⟩
            all_goals have HS3 := Lib.hid hS3
            all_goals clear hS3
            all_goals go_wp2_with fail
            all_goals refine (cWr (by omega) HS3.out).mono ?_
            all_goals rintro e w4 ⟨rfl, hS3⟩
            all_goals have HS4 := Lib.hid hS3
            all_goals clear hS3 cLen cWb cWr
            all_goals go_wp2_with fail
            all_goals first
              | (go_roundw
                 case rel =>
                   refine ⟨pos + 1, acc ++ [b], false, rfl, HS4.out, Lib.hid ?_, by simp; omega, by omega⟩
                   rw [anyB_app (by simp)]
                   simpa using HA3.out
                 case measure => rw [HP1.out, iterPos_at HS4.out.iter]; omega)
      · obtain ⟨hsk, hsk2⟩ := tok_skip HG.out hal2
        have HA3 := Lib.hid (by have := HA.out; rw [hdr.out, ofB_skip hsk hsk2] at this; exact this)
        clear hsk hsk2 hdr
        have hcase : (decide ((r : Int) < 97) = true ∧ decide ((r : Int) < 48) = true) ∨ (decide ((r : Int) < 97) = true ∧ decide ((r : Int) < 48) = false ∧ decide ((57 : Int) < r) = true) ∨ (decide ((r : Int) < 97) = false ∧ decide ((122 : Int) < r) = true ∧ decide ((r : Int) < 48) = false ∧ decide ((57 : Int) < r) = true) := by
          simp only [decide_eq_true_eq, decide_eq_false_iff_not]; omega
        clear hal2
        rcases hcase with ⟨t1, t2⟩ | ⟨t1, t2, t3⟩ | ⟨t1, t2, t3, t4⟩
        all_goals go_wp2_with fail
        all_goals first
          | (go_roundw
             case rel => exact ⟨pos + n, acc, true, rfl, HS2.out, HA3, by omega, hpn⟩
             case measure => rw [HP1.out, HP2.out]; omega)
    · have hit2 := iter_end hS.iter hp
      have hpe : pos = F.size := by omega
      have hac : acc = X := by
        have := HA.out
        rw [List.drop_eq_nil_of_le (by rw [← ba_size]; omega)] at this
        simpa [ofB] using this
      subst hac
      have HS := Lib.hid hS
      have cStr := (fun {w' : World} (h : Holds w.heap.size acc w') (hb : w.heap.size ≤ w'.heap.size) => read_str h hb)
      clear hS
      replace hpe := Lib.hid hpe
      go_wp2_with fail
      refine (cStr HS.out.holds (by have := HS.out.lt; omega)).mono ?_
      rintro e w2 ⟨rfl, hw2⟩
      have HB2 := Lib.hid (HS.out.below.trans hw2.below)
      clear hw2 cStr
      cases acc with
      | nil =>
        go_wp2_with fail
        go_ret
        rw [hXs.out]
        exact ⟨rfl, HB2.out⟩
      | cons a l =>
        obtain ⟨x, hx⟩ : ∃ x : ByteArray, (⟨(a :: l).toArray⟩ : ByteArray) = x := ⟨_, rfl⟩
        have hxl : x.data.toList = a :: l := by rw [← hx]
        have hxe : x.toList.isEmpty = false := by rw [Lib.toList_data, hxl]; rfl
        have hxs : x.size ≤ 2000000 := by rw [ba_size, hxl]; omega
        rw [hx]
        replace hx := Lib.hid hx
        replace hxl := Lib.hid hxl
        have cTr := fun (w' : World) => Tryz.strings_TrimRight_one (x.extract 0 (min (x.size : Int) 40).toNat) 45 (by decide) w' (by simp; omega)
        have hxe2 : (x.extract 0 (min (x.size : Int) 40).toNat).data.toList = (a :: l).take 40 := by
          rw [ba_extract, List.drop_zero, hxl.out]
          have : (min (x.size : Int) 40).toNat = min x.size 40 := by omega
          rw [this]
          rcases Nat.le_total x.size 40 with h9 | h9
          · rw [Nat.min_eq_left h9, List.take_of_length_le (by rw [← hxl.out, ← ba_size]; exact Nat.le_refl _), List.take_of_length_le (by rw [← hxl.out, ← ba_size]; exact h9)]
          · rw [Nat.min_eq_right h9]
        rw [hxe2] at cTr
        go_wp2_with fail
        refine (cTr _).mono ?_
        rintro e w3 ⟨rfl, hw3⟩
        subst w3
        clear cTr hxe2
        go_wp2_with fail
        go_ret
        rw [hXs.out]
        exact ⟨rfl, HB2.out⟩
end Go.Proofs.YtbblgnbafecdmaaGreatDoor
