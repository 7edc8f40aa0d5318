/- alive: the walk. -/
import Derived.Test.YtbblgnbafecdmaaGreatDoorNames
import Derived.Deep.QuietTactic
import Derived.BigQuiet
import Derived.Test.YtbblgnbafecdmaaGreatDoorSecs
import Derived.Laws.StructEq
namespace Go.Proofs.YtbblgnbafecdmaaGreatDoor
open Go.RowKit Go.Lib

/-- are two lists of texts one? -/
def sameL (a b : List ByteArray) : Bool := a.map (·.toList) == b.map (·.toList)
theorem sameL_iff {a b : List ByteArray} : sameL a b = true ↔ a = b := by
  unfold sameL
  rw [beq_iff_eq]
  refine ⟨fun h => ?_, fun h => by rw [h]⟩
  have hi : ∀ x y : ByteArray, x.toList = y.toList → x = y := fun x y h => eqB_iff.1 (by unfold eqB; rw [h]; simp)
  exact List.map_inj_right (fun x y h => hi x y h) |>.1 h
theorem sameL_false {a b : List ByteArray} : sameL a b = false ↔ a ≠ b := by
  rw [← Bool.not_eq_true, ne_eq, not_congr]; exact sameL_iff
theorem sameL_len {a b : List ByteArray} (h : a.length ≠ b.length) : sameL a b = false := sameL_false.2 (fun e => h (by rw [e]))
theorem sameL_refl (a : List ByteArray) : sameL a a = true := sameL_iff.2 rfl
theorem NamesIn.form {w : World} {v : Value} {l : List ByteArray} (h : NamesIn w v l) : ∃ a cap, v = .slice a l.length cap := by
  rcases h with ⟨rfl, a, cap, rfl⟩ | ⟨b, o, cap, rfl, -⟩
  · exact ⟨_, _, rfl⟩
  · exact ⟨_, _, rfl⟩
theorem NamesIn.cells {w : World} {v : Value} {l : List ByteArray} {a : Option Addr} {cap : Nat} (h : NamesIn w v l) (hv : v = .slice a l.length cap) (hne : 0 < l.length) : ∃ b o, a = some ⟨b, o, none⟩ ∧ b < w.heap.size ∧ ∀ i (h : i < l.length), w.cell? ⟨b, o + i, none⟩ = some (.string l[i]) := by
  rcases h with ⟨rfl, -⟩ | ⟨b, o, cap', rfl, hb, hc⟩
  · simp at hne
  · simp only [Value.slice.injEq] at hv
    exact ⟨b, o, hv.1.symm, hb, hc⟩

set_option maxRecDepth 100000 in
set_option maxHeartbeats 1000000 in
theorem same_any {w : World} (v u : Value) (L M : List ByteArray) (hv : NamesIn w v L) (hu : NamesIn w u M) (hm : L.length ≤ 100000) (hm2 : M.length ≤ 100000) :
    Calls Tryz.prog 10 #[v, u] w fun e w' => e = .returned (.bool (sameL L M)) ∧ Below w.heap.size w w' := by
  obtain ⟨a, ca, rfl⟩ := hv.form
  obtain ⟨b, cb, rfl⟩ := hu.form
  have HV := Lib.hid hv
  have HU := Lib.hid hu
  clear hv hu
  by_cases hl : L.length = M.length
  · have t1 : ((L.length : Int) == (M.length : Int)) = true := by simp [hl]
    have t2 : ((L.length : Int) != (M.length : Int)) = false := by rw [bne, t1]; rfl
    replace hl := Lib.hid hl
    go_enter Tryz.func10, Tryz.ntmps10
    go_wp2_with fail
    go_loopw [5] (fun i wr => ∃ k : Nat, k ≤ L.length ∧ i = .int .i64 k ∧ Hid (L.take k = M.take k) ∧ Below w.heap.size w wr) (fun i _ => L.length - (RowKit.intOf i).toNat)
    case atStart => exact ⟨0, Nat.zero_le _, rfl, Lib.hid (by simp), Below.refl _ _⟩
    case round =>
      obtain ⟨k, hk, rfl, hE, hB⟩ := hrel
      by_cases hlt : k < L.length
      · have hltM : k < M.length := by rw [← hl.out]; exact hlt
        obtain ⟨b1, o1, rfl, hb1, hc1⟩ := HV.out.cells rfl (by omega)
        obtain ⟨b2, o2, rfl, hb2, hc2⟩ := HU.out.cells rfl (by omega)
        have c1 := (hB.cell (p := ⟨b1, o1 + k, none⟩) hb1).trans (hc1 k hlt)
        have c2 := (hB.cell (p := ⟨b2, o2 + k, none⟩) hb2).trans (hc2 k hltM)
        have hd1 := Lib.hid (List.take_succ_eq_append_getElem hlt)
        have hd2 := Lib.hid (List.take_succ_eq_append_getElem hltM)
        have hne := Lib.hid (show ∀ h : L = M, L[k] = M[k] from fun h => by subst h; rfl)
        clear hc1 hc2
        have hk0 : (0 : Int) ≤ (k : Int) := by omega
        have hk1 : (k : Int) < L.length := by omega
        have hk2 : (k : Int) < M.length := by omega
        generalize L[k] = x at *
        generalize M[k] = y at *
        cases hq : (x.toList == y.toList) with
        | true =>
          have hR := Lib.hid (show L.take (k + 1) = M.take (k + 1) by
            rw [hd1.out, hd2.out, hE.out, eqB_iff.1 (show eqB x y = true from hq)])
          go_wp2_with fail
          go_quiet (fail)
          go_wp2_with fail
          go_roundw
          case rel => exact ⟨k + 1, by omega, by go_num, hR, below_drewN hB _⟩
          case measure => simp only [RowKit.intOf]; omega
        | false =>
          have hR := Lib.hid (show sameL L M = false by
            rw [sameL_false]
            intro h
            have h2 := hne.out h
            rw [h2] at hq
            simp at hq)
          go_wp2_with fail
          go_quiet (fail)
          go_wp2_with fail
          go_ret
          rw [hR.out]
          exact ⟨rfl, below_drewN hB _⟩
      · have hR := Lib.hid (show sameL L M = true by
          rw [sameL_iff]
          have h1 := hE.out
          rw [List.take_of_length_le (by omega), List.take_of_length_le (by rw [← hl.out]; omega)] at h1
          exact h1)
        go_wp2_with fail
        go_ret
        rw [hR.out]
        exact ⟨rfl, hB⟩
  · have t1 : ((L.length : Int) == (M.length : Int)) = false := by rw [beq_eq_false_iff_ne]; omega
    have t2 : ((L.length : Int) != (M.length : Int)) = true := by rw [bne, t1]; rfl
    have hR := Lib.hid (sameL_len hl)
    replace hl := Lib.hid hl
    go_enter Tryz.func10, Tryz.ntmps10
    go_wp2_with fail
    go_ret
    rw [hR.out]
    exact ⟨rfl, Below.refl _ _⟩
end Go.Proofs.YtbblgnbafecdmaaGreatDoor
namespace Go.Proofs.YtbblgnbafecdmaaGreatDoor
open Go.RowKit Go.Lib

theorem slug_A : slugL [65] = [97] := by decide +kernel
theorem itoa_2 : Lib.itoa 2 = [50] := by decide +kernel
theorem chain_ex : Chain [[65], [65]] [[97], [97, 45, 50]] := by
  refine (Chain.nil.snoc (t := [65]) (id := [97]) ?_).snoc (t := [65]) (id := [97, 45, 50]) ?_
  · rw [slug_A]
    exact ⟨1, Nat.le_refl _, by unfold cand; rw [if_pos (Nat.le_refl 1)], by simp, fun j h1 h2 => by omega⟩
  · rw [slug_A]
    refine ⟨2, by omega, ?_, ?_, fun j h1 h2 => ?_⟩
    · unfold cand; rw [if_neg (by omega)]
      show _ = _ ++ 45 :: Lib.itoa 2
      rw [itoa_2]; rfl
    · unfold cand; rw [if_neg (by omega)]
      show ¬ _ ++ 45 :: Lib.itoa 2 ∈ _
      rw [itoa_2]; decide
    · obtain rfl : j = 1 := by omega
      unfold cand; rw [if_pos (Nat.le_refl 1)]; simp
theorem allN_13 : allN [1, 3] = [[49], [49, 46, 49]] := by decide +kernel
theorem allN_ex : allN [1, 2, 2, 1, 3] = [[49], [49, 46, 49], [49, 46, 50], [50], [50, 46, 49]] := by decide +kernel
abbrev sA : ByteArray := ⟨#[65]⟩
theorem secs_ex {ids : List (List UInt8)} (h : Chain ([(⟨1, sA⟩ : Hd), ⟨3, sA⟩].map (·.text.data.toList)) ids) :
    secsOf [⟨1, sA⟩, ⟨3, sA⟩] ids = [⟨1, ⟨#[49]⟩, ⟨#[97]⟩, sA⟩, ⟨3, ⟨#[49, 46, 49]⟩, ⟨#[97, 45, 50]⟩, sA⟩] := by
  have h2 : ids = [[97], [97, 45, 50]] := Chain.uniq h chain_ex
  subst h2
  unfold secsOf
  show List.map _ (List.zip _ ((allN [1, 3]).zip _)) = _
  rw [allN_13]
  rfl

set_option maxRecDepth 100000 in
set_option maxHeartbeats 2000000 in
theorem alive_any {w : World} (hT : Tabs w) : Calls Tryz.prog 4 #[] w fun e w' => e = .returned (.bool true) ∧ Below w.heap.size w w' := by
  have HT := Lib.hid hT
  have HLOW := Lib.hid hT.low
  clear hT
  go_enter Tryz.func4, Tryz.ntmps4
  go_wp2_with fail
  have HB0 := Lib.hid ((Below.refl w.heap.size w).alloc (Nat.le_refl _) (.cells #[.int .i64 1, .string sA, .int .i64 3, .string sA] 41))
  have hH0 : Hid (HdsIn (w.alloc (.cells #[.int .i64 1, .string sA, .int .i64 3, .string sA] 41)) (.slice (some ⟨w.heap.size, 0, none⟩) 2 2) [⟨1, sA⟩, ⟨3, sA⟩]) := by
    refine Or.inr ⟨w.heap.size, 0, 2, rfl, by simp, fun i hi => ?_⟩
    have hi : i < 2 := hi
    have h9 : i = 0 ∨ i = 1 := by omega
    rcases h9 with rfl | rfl
    · exact ⟨by rw [cell_of_row _ _ _ _ _ _ (heap_alloc_new w _)]; rfl, by rw [cell_of_row _ _ _ _ _ _ (heap_alloc_new w _)]; rfl⟩
    · exact ⟨by rw [cell_of_row _ _ _ _ _ _ (heap_alloc_new w _)]; rfl, by rw [cell_of_row _ _ _ _ _ _ (heap_alloc_new w _)]; rfl⟩
  refine (secs_any (HT.out.on HB0.out) _ [⟨1, sA⟩, ⟨3, sA⟩] hH0.out (by simp) (by intro h hh; simp at hh; rcases hh with rfl | rfl <;> decide)).mono ?_
  rintro e w1 ⟨v, ids, rfl, hch, hrow, hb1⟩
  rw [secs_ex hch] at hrow
  obtain ⟨g, cap, rfl, hcap⟩ := row_some hrow (by simp [Sec.cells])
  have HR := Lib.hid hrow
  have HB1 := Lib.hid (HB0.out.trans (hb1.mono HB0.out.size))
  clear hch hrow hb1
  have HB2 := Lib.hid (HB1.out.alloc HB1.out.size (.cells #[.int .i64 1, .int .i64 2, .int .i64 2, .int .i64 1, .int .i64 3] 3))
  have hI : Hid (IntsIn (w1.alloc (.cells #[.int .i64 1, .int .i64 2, .int .i64 2, .int .i64 1, .int .i64 3] 3)) (.slice (some ⟨w1.heap.size, 0, none⟩) 5 5) [1, 2, 2, 1, 3]) := by
    refine Or.inr ⟨w1.heap.size, 0, 5, rfl, by simp, fun i hi => ?_⟩
    have hi : i < 5 := hi
    have h9 : i = 0 ∨ i = 1 ∨ i = 2 ∨ i = 3 ∨ i = 4 := by omega
    rcases h9 with rfl | rfl | rfl | rfl | rfl <;> (rw [cell_of_row _ _ _ _ _ _ (heap_alloc_new w1 _)]; rfl)
  go_wp2_with fail
  refine (all_any (HT.out.under HLOW.out HB2.out) _ [1, 2, 2, 1, 3] hI.out (by simp)).mono ?_
  rintro e w2 ⟨v2, rfl, hrow2, hb2⟩
  rw [allN_ex] at hrow2
  have HN2 := Lib.hid (namesIn_row (L := texts [[49], [49, 46, 49], [49, 46, 50], [50], [50, 46, 49]]) hrow2)
  have HR2 := Lib.hid (row_kept (HR.out.alloc (.cells #[.int .i64 1, .int .i64 2, .int .i64 2, .int .i64 1, .int .i64 3] 3)) (fun g hg => hb2.block g ((HR.out.alloc _).lt g hg).2))
  have HB3 := Lib.hid (HB2.out.trans (hb2.mono HB2.out.size))
  clear hrow2 hb2 hI
  have HB4 := Lib.hid (HB3.out.alloc HB3.out.size (.cells #[.string ⟨#[49]⟩, .string ⟨#[49, 46, 49]⟩, .string ⟨#[49, 46, 50]⟩, .string ⟨#[50]⟩, .string ⟨#[50, 46, 49]⟩] 9))
  have hM : Hid (NamesIn (w2.alloc (.cells #[.string ⟨#[49]⟩, .string ⟨#[49, 46, 49]⟩, .string ⟨#[49, 46, 50]⟩, .string ⟨#[50]⟩, .string ⟨#[50, 46, 49]⟩] 9)) (.slice (some ⟨w2.heap.size, 0, none⟩) 5 5) (texts [[49], [49, 46, 49], [49, 46, 50], [50], [50, 46, 49]])) := by
    refine Or.inr ⟨w2.heap.size, 0, 5, rfl, by simp, fun i hi => ?_⟩
    have hi : i < 5 := hi
    have h9 : i = 0 ∨ i = 1 ∨ i = 2 ∨ i = 3 ∨ i = 4 := by omega
    rcases h9 with rfl | rfl | rfl | rfl | rfl <;> (rw [cell_of_row _ _ _ _ _ _ (heap_alloc_new w2 _)]; rfl)
  go_wp2_with fail
  refine (same_any _ _ _ _ (HN2.out.below ((Below.refl _ _).alloc (Nat.le_refl _) _)) hM.out (by simp [texts]) (by simp [texts])).mono ?_
  rw [sameL_refl]
  rintro e w3 ⟨rfl, hb3⟩
  have HR3 := row_kept (HR2.out.alloc (.cells #[.string ⟨#[49]⟩, .string ⟨#[49, 46, 49]⟩, .string ⟨#[49, 46, 50]⟩, .string ⟨#[50]⟩, .string ⟨#[50, 46, 49]⟩] 9)) (fun g hg => hb3.block g ((HR2.out.alloc _).lt g hg).2)
  have c4 : w3.cell? ⟨g, 4, none⟩ = some (.int .i64 3) := HR3.cellAt 4 (by simp)
  have c5 : w3.cell? ⟨g, 5, none⟩ = some (.string ⟨#[49, 46, 49]⟩) := HR3.cellAt 5 (by simp)
  have c6 : w3.cell? ⟨g, 6, none⟩ = some (.string ⟨#[97, 45, 50]⟩) := HR3.cellAt 6 (by simp)
  have c7 : w3.cell? ⟨g, 7, none⟩ = some (.string ⟨#[65]⟩) := HR3.cellAt 7 (by simp)
  have HB5 := Lib.hid (HB4.out.trans (hb3.mono HB4.out.size))
  clear HR3 hb3 hM
  go_wp2_with fail
  go_ret
  exact ⟨rfl, HB5.out⟩
end Go.Proofs.YtbblgnbafecdmaaGreatDoor
